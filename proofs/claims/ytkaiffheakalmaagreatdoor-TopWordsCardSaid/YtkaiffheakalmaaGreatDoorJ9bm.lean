/- Joined. No conditions. -/
import Derived.Test.YtkaiffheakalmaaGreatDoorJ9bl
set_option linter.unusedSimpArgs false
set_option linter.unusedVariables false
set_option maxRecDepth 100000
namespace Go.Proofs.YtkaiffheakalmaaGreatDoor
open Go.RowKit
theorem Jb (c:UInt8):Lib.indexByte [42,43,63] c=if c=42 then 0 else if c=43 then 1 else if c=63 then 2 else -1:=by
 by_cases h1:c=42
 ·subst h1;rfl
 ·by_cases h2:c=43
  ·subst h2;rfl
  ·by_cases h3:c=63
   ·subst h3;rfl
   ·have e1:((42:UInt8)==c)=false:=by rw [beq_eq_false_iff_ne];exact fun e=>h1 e.symm
    have e2:((43:UInt8)==c)=false:=by rw [beq_eq_false_iff_ne];exact fun e=>h2 e.symm
    have e3:((63:UInt8)==c)=false:=by rw [beq_eq_false_iff_ne];exact fun e=>h3 e.symm
    simp [Lib.indexByte,e1,e2,e3,h1,h2,h3]
theorem Dp {x:Ex} {c:UInt8} {r:List UInt8} (h:Du c=true):suf x (c::r)=suf (.mk (Zu c) 0 [x]) r:=by rw [suf,if_pos h]
theorem Ee {x:Ex} {c:UInt8} {r:List UInt8} (h:¬Du c=true):suf x (c::r)=(x,c::r):=by rw [suf,if_neg h]
theorem B2 (x:Ex) (k:Int):Ai 4 [Ah x] [V.agg [.int .i64 k,.int .i64 0,.sl 4 0 1]]=[.agg [.int .i64 k,.int .i64 0,.lst [Ah x]]]:=by simp [Ai,V.frz]
theorem Cb (k:Int) (x:Ex):Ah (.mk k 0 [x])= .agg [.int .i64 k,.int .i64 0,.lst [Ah x]]:=DF k 0 [x]
def Rv (f:List UInt8→PR) (r:List UInt8):Prop:=HFn Tryz.prog 17 [.ptr 0 0 0] (eA r false) [0] (fun v o=>v=Ah (f r).1∧o=eA (f r).2.1 (f r).2.2)
set_option maxHeartbeats 8000000 in
theorem fJ (f:List UInt8→PR) (c:UInt8) (r:List UInt8) (hf:Rv f r):HFn Tryz.prog 70 [.ptr 0 0 0] (eA (c::r) false) [0] (fun v o=>v=Ah (Cj f c r).1∧o=eA (Cj f c r).2.1 (Cj f c r).2.2):=by
 have hc:=c.toNat_lt
 obtain ⟨x0,s0,b0,hbase⟩:∃x s b,Eu f c r=(x,s,b):=⟨_,_,_,rfl⟩
 have hi:Cj f c r=((suf x0 s0).1,(suf x0 s0).2,b0):=by unfold Cj;rw [hbase]
 rw [hi]
 refine Tm ?_
 refine IJ Tryz.func70 fun C vs hC hE=>?_
 have h0:Int.toNat 0 < (c::r).length:=by simp
 have h1:Int.toNat 1≤(c::r).length:=by simp
 have hD:Tp c=true∧(97≤c.toNat∧c.toNat≤104)∧x0= .mk 1 ((c.toNat:Int) - 97) []∧s0=r∧b0=false∨¬(97≤c.toNat∧c.toNat≤104)∧c.toNat=40∧(∃xa sa ba,f r=(xa,sa,ba)∧(ba=true∧x0=xa∧s0=sa∧b0=true∨ba=false∧Mx sa 41=true∧x0=xa∧s0=Il sa 41∧b0=false∨ba=false∧Mx sa 41=false∧x0=xa∧s0=Il sa 41∧b0=true))∨
  ¬(97≤c.toNat∧c.toNat≤104)∧¬c.toNat=40∧x0= .mk 0 0 []∧s0=r∧b0=true:=by
  unfold Eu at hbase
  by_cases hlow:Tp c=true
  ·rw [if_pos hlow] at hbase
   cases hbase
   exact .inl ⟨hlow,by unfold Tp at hlow;simpa using hlow,rfl,rfl,rfl⟩
  ·rw [if_neg hlow] at hbase
   have hnl:¬(97≤c.toNat∧c.toNat≤104):=by unfold Tp at hlow;simpa using hlow
   by_cases h40:c=40
   ·rw [if_pos h40] at hbase
    refine .inr (.inl ⟨hnl,by rw [h40];rfl,?_⟩)
    generalize f r=q at hbase
    obtain ⟨xa,sa,ba⟩:=q
    refine ⟨xa,sa,ba,rfl,?_⟩
    cases ba with
    | true=>
      simp only at hbase
      cases hbase
      exact .inl ⟨rfl,rfl,rfl,rfl⟩
    | false=>
      cases sa with
      | nil=>
        simp only at hbase
        cases hbase
        exact .inr (.inr ⟨rfl,rfl,rfl,rfl,rfl⟩)
      | cons d s'=>
        simp only at hbase
        by_cases hd:d=41
        ·rw [if_pos hd] at hbase
         cases hbase
         exact .inr (.inl ⟨rfl,by rw [hd];rfl,rfl,by rw [hd];rfl,rfl⟩)
        ·rw [if_neg hd] at hbase
         cases hbase
         refine .inr (.inr ⟨rfl,?_,rfl,?_,rfl⟩)
         ·unfold Mx;rw [decide_eq_false_iff_not];simpa using hd
         ·unfold Il;rw [if_neg (by simpa using hd)]
   ·rw [if_neg h40] at hbase
    cases hbase
    exact .inr (.inr ⟨hnl,fun e=>h40 (UInt8.toNat_inj.1 e),rfl,rfl,rfl⟩)
 rcases hD with ⟨_,hb,rfl,rfl,rfl⟩|⟨hb,h40,xa,sa,ba,hfr,hD⟩|⟨hb,h40,rfl,rfl,rfl⟩
 ·conv=>whnf
  repeat' (first|refine A2 ?_|refine AO ?_|refine AV ?_|refine ea (by simp only [N1,N2];omega) ?_)<;>conv=>whnf
  generalize hR:suf (.mk 1 ((c.toNat:Int) - 97) []) s0=R
  refine Ab (fun ((x,s):Ex×List UInt8)=>⟨77,[(0,.ptr 0 0 0),(2,.ptr 2 0 0),(4,.ptr 3 0 0)],[some (.row 2 [.agg [.str s,.bool false]]),some (.hid vs [.ptr 0 0 0]),some (.row 3 [.agg [.int .i64 0,.int .i64 0,.nils]]),some (.row 3 [Ah x])]⟩)
   (fun (x,s)=>suf x s=R) (fun (_,s)=>s.length) ((.mk 1 ((c.toNat:Int) - 97) []),s0) hE ?_ hR ?_
  ·first
    | exact AP [0,2,4] rfl
    | exact Ro 3 rfl (AP [0,2,4] rfl)
  rintro ⟨x,s⟩ hI
  have hI:suf x s=R:=hI
  obtain ⟨k,t,ps⟩:=x
  cases s with
  | nil=>
    have hI:(Ex.mk k t ps,[])=R:=hI
    subst hI
    conv=>whnf
    repeat' refine MA rfl ?_<;>conv=>whnf
    refine A5 hE ?_
    conv=>whnf
    exact ⟨rfl,rfl,rfl,rfl,Do (.mk k t ps),rfl⟩
  | cons d s=>
    have hn:¬(d::s=[]):=by simp
    have hn1:Int.toNat 1≤(d::s).length:=by simp
    have hn0:Int.toNat 0 < (d::s).length:=by simp
    by_cases hs:Du d=true
    ·rw [Dp hs] at hI
     have h3:d=42∨d=43∨d=63:=by unfold Du at hs;simpa [or_assoc] using hs
     rcases h3 with rfl|rfl|rfl
     ·have hix:Fn1 Tryz.prog 89 [.str [42,43,63],.int .u8 (42:UInt8).toNat] (fun r=>r= .int .i64 0):=BJ [42,43,63] 42
      conv=>whnf
      repeat' (first|refine A1 ?_|refine AO ?_|refine AV ?_|refine AN hix hC Aw ?_)<;>conv=>whnf
      refine AK 4 (z:=3) (els:=[Ah (.mk k t ps)]) rfl ⟨Bh (.mk k t ps),trivial⟩ (AM [0,2,4] [] (.mk 4 0 [.mk k t ps],s) hI (Nat.lt_succ_self _) ?_)
      conv=>whnf
      simp only [List.set_cons_zero,B2 (.mk k t ps),Cb]
      rfl
     ·have hix:Fn1 Tryz.prog 89 [.str [42,43,63],.int .u8 (43:UInt8).toNat] (fun r=>r= .int .i64 1):=BJ [42,43,63] 43
      conv=>whnf
      repeat' (first|refine A1 ?_|refine AO ?_|refine AV ?_|refine AN hix hC Aw ?_)<;>conv=>whnf
      refine AK 4 (z:=3) (els:=[Ah (.mk k t ps)]) rfl ⟨Bh (.mk k t ps),trivial⟩ (AM [0,2,4] [] (.mk 5 0 [.mk k t ps],s) hI (Nat.lt_succ_self _) ?_)
      conv=>whnf
      simp only [List.set_cons_zero,B2 (.mk k t ps),Cb]
      rfl
     ·have hix:Fn1 Tryz.prog 89 [.str [42,43,63],.int .u8 (63:UInt8).toNat] (fun r=>r= .int .i64 2):=BJ [42,43,63] 63
      conv=>whnf
      repeat' (first|refine A1 ?_|refine AO ?_|refine AV ?_|refine AN hix hC Aw ?_)<;>conv=>whnf
      refine AK 4 (z:=3) (els:=[Ah (.mk k t ps)]) rfl ⟨Bh (.mk k t ps),trivial⟩ (AM [0,2,4] [] (.mk 6 0 [.mk k t ps],s) hI (Nat.lt_succ_self _) ?_)
      conv=>whnf
      simp only [List.set_cons_zero,B2 (.mk k t ps),Cb]
      rfl
    ·rw [Ee hs] at hI
     subst hI
     have h3:¬d=42∧¬d=43∧¬d=63:=by unfold Du at hs;simpa [and_assoc] using hs
     have hix:=BJ [42,43,63] d
     rw [Jb,if_neg h3.1,if_neg h3.2.1,if_neg h3.2.2] at hix
     conv=>whnf
     repeat' (first|refine A2 ?_|refine A1 ?_|refine AO ?_|refine AN hix hC Aw ?_)<;>conv=>whnf
     refine A5 hE ?_
     conv=>whnf
     exact ⟨rfl,rfl,rfl,rfl,Do (.mk k t ps),rfl⟩
 ·unfold Rv at hf
  rw [hfr] at hf
  simp only at hf
  have htk:=Ve sa false 41
  rcases hD with ⟨rfl,rfl,rfl,rfl⟩|⟨rfl,ht,rfl,rfl,rfl⟩|⟨rfl,ht,rfl,rfl,rfl⟩
  ·conv=>whnf
   repeat' (first|refine A2 ?_|refine A1 ?_|refine AO ?_|refine B1 hf hC DX 0 rfl trivial (Bh _) rfl ⟨⟨trivial,trivial,trivial⟩,trivial⟩ ⟨⟨trivial,trivial,trivial⟩,trivial⟩ ?_)<;>conv=>whnf
   generalize hR:suf x0 s0=R
   refine Ab (fun ((x,s):Ex×List UInt8)=>⟨77,[(0,.ptr 0 0 0),(2,.ptr 2 0 0),(4,.ptr 3 0 0)],[some (.row 2 [.agg [.str s,.bool true]]),some (.hid vs [.ptr 0 0 0]),some (.row 3 [.agg [.int .i64 0,.int .i64 0,.nils]]),some (.row 3 [Ah x])]⟩)
    (fun (x,s)=>suf x s=R) (fun (_,s)=>s.length) (x0,s0) hE ?_ hR ?_
   ·first
     | exact AP [0,2,4] rfl
     | exact Ro 3 rfl (AP [0,2,4] rfl)
   rintro ⟨x,s⟩ hI
   have hI:suf x s=R:=hI
   obtain ⟨k,t,ps⟩:=x
   cases s with
   | nil=>
     have hI:(Ex.mk k t ps,[])=R:=hI
     subst hI
     conv=>whnf
     repeat' refine MA rfl ?_<;>conv=>whnf
     refine A5 hE ?_
     conv=>whnf
     exact ⟨rfl,rfl,rfl,rfl,Do (.mk k t ps),rfl⟩
   | cons d s=>
     have hn:¬(d::s=[]):=by simp
     have hn1:Int.toNat 1≤(d::s).length:=by simp
     have hn0:Int.toNat 0 < (d::s).length:=by simp
     by_cases hs:Du d=true
     ·rw [Dp hs] at hI
      have h3:d=42∨d=43∨d=63:=by unfold Du at hs;simpa [or_assoc] using hs
      rcases h3 with rfl|rfl|rfl
      ·have hix:Fn1 Tryz.prog 89 [.str [42,43,63],.int .u8 (42:UInt8).toNat] (fun r=>r= .int .i64 0):=BJ [42,43,63] 42
       conv=>whnf
       repeat' (first|refine A1 ?_|refine AO ?_|refine AV ?_|refine AN hix hC Aw ?_)<;>conv=>whnf
       refine AK 4 (z:=3) (els:=[Ah (.mk k t ps)]) rfl ⟨Bh (.mk k t ps),trivial⟩ (AM [0,2,4] [] (.mk 4 0 [.mk k t ps],s) hI (Nat.lt_succ_self _) ?_)
       conv=>whnf
       simp only [List.set_cons_zero,B2 (.mk k t ps),Cb]
       rfl
      ·have hix:Fn1 Tryz.prog 89 [.str [42,43,63],.int .u8 (43:UInt8).toNat] (fun r=>r= .int .i64 1):=BJ [42,43,63] 43
       conv=>whnf
       repeat' (first|refine A1 ?_|refine AO ?_|refine AV ?_|refine AN hix hC Aw ?_)<;>conv=>whnf
       refine AK 4 (z:=3) (els:=[Ah (.mk k t ps)]) rfl ⟨Bh (.mk k t ps),trivial⟩ (AM [0,2,4] [] (.mk 5 0 [.mk k t ps],s) hI (Nat.lt_succ_self _) ?_)
       conv=>whnf
       simp only [List.set_cons_zero,B2 (.mk k t ps),Cb]
       rfl
      ·have hix:Fn1 Tryz.prog 89 [.str [42,43,63],.int .u8 (63:UInt8).toNat] (fun r=>r= .int .i64 2):=BJ [42,43,63] 63
       conv=>whnf
       repeat' (first|refine A1 ?_|refine AO ?_|refine AV ?_|refine AN hix hC Aw ?_)<;>conv=>whnf
       refine AK 4 (z:=3) (els:=[Ah (.mk k t ps)]) rfl ⟨Bh (.mk k t ps),trivial⟩ (AM [0,2,4] [] (.mk 6 0 [.mk k t ps],s) hI (Nat.lt_succ_self _) ?_)
       conv=>whnf
       simp only [List.set_cons_zero,B2 (.mk k t ps),Cb]
       rfl
     ·rw [Ee hs] at hI
      subst hI
      have h3:¬d=42∧¬d=43∧¬d=63:=by unfold Du at hs;simpa [and_assoc] using hs
      have hix:=BJ [42,43,63] d
      rw [Jb,if_neg h3.1,if_neg h3.2.1,if_neg h3.2.2] at hix
      conv=>whnf
      repeat' (first|refine A2 ?_|refine A1 ?_|refine AO ?_|refine AN hix hC Aw ?_)<;>conv=>whnf
      refine A5 hE ?_
      conv=>whnf
      exact ⟨rfl,rfl,rfl,rfl,Do (.mk k t ps),rfl⟩
  ·rw [ht] at htk
   conv=>whnf
   repeat' (first|refine A2 ?_|refine A1 ?_|refine AO ?_|refine B1 hf hC DX 0 rfl trivial (Bh _) rfl ⟨⟨trivial,trivial,trivial⟩,trivial⟩ ⟨⟨trivial,trivial,trivial⟩,trivial⟩ ?_|refine B1 htk hC FW 0 rfl ⟨trivial,trivial⟩ trivial rfl ⟨⟨trivial,trivial,trivial⟩,trivial⟩ ⟨⟨trivial,trivial,trivial⟩,trivial⟩ ?_)<;>conv=>whnf
   generalize hR:suf x0 (Il sa 41)=R
   refine Ab (fun ((x,s):Ex×List UInt8)=>⟨77,[(0,.ptr 0 0 0),(2,.ptr 2 0 0),(4,.ptr 3 0 0)],[some (.row 2 [.agg [.str s,.bool false]]),some (.hid vs [.ptr 0 0 0]),some (.row 3 [.agg [.int .i64 0,.int .i64 0,.nils]]),some (.row 3 [Ah x])]⟩)
    (fun (x,s)=>suf x s=R) (fun (_,s)=>s.length) (x0,(Il sa 41)) hE ?_ hR ?_
   ·first
     | exact AP [0,2,4] rfl
     | exact Ro 3 rfl (AP [0,2,4] rfl)
   rintro ⟨x,s⟩ hI
   have hI:suf x s=R:=hI
   obtain ⟨k,t,ps⟩:=x
   cases s with
   | nil=>
     have hI:(Ex.mk k t ps,[])=R:=hI
     subst hI
     conv=>whnf
     repeat' refine MA rfl ?_<;>conv=>whnf
     refine A5 hE ?_
     conv=>whnf
     exact ⟨rfl,rfl,rfl,rfl,Do (.mk k t ps),rfl⟩
   | cons d s=>
     have hn:¬(d::s=[]):=by simp
     have hn1:Int.toNat 1≤(d::s).length:=by simp
     have hn0:Int.toNat 0 < (d::s).length:=by simp
     by_cases hs:Du d=true
     ·rw [Dp hs] at hI
      have h3:d=42∨d=43∨d=63:=by unfold Du at hs;simpa [or_assoc] using hs
      rcases h3 with rfl|rfl|rfl
      ·have hix:Fn1 Tryz.prog 89 [.str [42,43,63],.int .u8 (42:UInt8).toNat] (fun r=>r= .int .i64 0):=BJ [42,43,63] 42
       conv=>whnf
       repeat' (first|refine A1 ?_|refine AO ?_|refine AV ?_|refine AN hix hC Aw ?_)<;>conv=>whnf
       refine AK 4 (z:=3) (els:=[Ah (.mk k t ps)]) rfl ⟨Bh (.mk k t ps),trivial⟩ (AM [0,2,4] [] (.mk 4 0 [.mk k t ps],s) hI (Nat.lt_succ_self _) ?_)
       conv=>whnf
       simp only [List.set_cons_zero,B2 (.mk k t ps),Cb]
       rfl
      ·have hix:Fn1 Tryz.prog 89 [.str [42,43,63],.int .u8 (43:UInt8).toNat] (fun r=>r= .int .i64 1):=BJ [42,43,63] 43
       conv=>whnf
       repeat' (first|refine A1 ?_|refine AO ?_|refine AV ?_|refine AN hix hC Aw ?_)<;>conv=>whnf
       refine AK 4 (z:=3) (els:=[Ah (.mk k t ps)]) rfl ⟨Bh (.mk k t ps),trivial⟩ (AM [0,2,4] [] (.mk 5 0 [.mk k t ps],s) hI (Nat.lt_succ_self _) ?_)
       conv=>whnf
       simp only [List.set_cons_zero,B2 (.mk k t ps),Cb]
       rfl
      ·have hix:Fn1 Tryz.prog 89 [.str [42,43,63],.int .u8 (63:UInt8).toNat] (fun r=>r= .int .i64 2):=BJ [42,43,63] 63
       conv=>whnf
       repeat' (first|refine A1 ?_|refine AO ?_|refine AV ?_|refine AN hix hC Aw ?_)<;>conv=>whnf
       refine AK 4 (z:=3) (els:=[Ah (.mk k t ps)]) rfl ⟨Bh (.mk k t ps),trivial⟩ (AM [0,2,4] [] (.mk 6 0 [.mk k t ps],s) hI (Nat.lt_succ_self _) ?_)
       conv=>whnf
       simp only [List.set_cons_zero,B2 (.mk k t ps),Cb]
       rfl
     ·rw [Ee hs] at hI
      subst hI
      have h3:¬d=42∧¬d=43∧¬d=63:=by unfold Du at hs;simpa [and_assoc] using hs
      have hix:=BJ [42,43,63] d
      rw [Jb,if_neg h3.1,if_neg h3.2.1,if_neg h3.2.2] at hix
      conv=>whnf
      repeat' (first|refine A2 ?_|refine A1 ?_|refine AO ?_|refine AN hix hC Aw ?_)<;>conv=>whnf
      refine A5 hE ?_
      conv=>whnf
      exact ⟨rfl,rfl,rfl,rfl,Do (.mk k t ps),rfl⟩
  ·rw [ht] at htk
   conv=>whnf
   repeat' (first|refine A2 ?_|refine A1 ?_|refine AO ?_|refine B1 hf hC DX 0 rfl trivial (Bh _) rfl ⟨⟨trivial,trivial,trivial⟩,trivial⟩ ⟨⟨trivial,trivial,trivial⟩,trivial⟩ ?_|refine B1 htk hC FW 0 rfl ⟨trivial,trivial⟩ trivial rfl ⟨⟨trivial,trivial,trivial⟩,trivial⟩ ⟨⟨trivial,trivial,trivial⟩,trivial⟩ ?_)<;>conv=>whnf
   generalize hR:suf x0 (Il sa 41)=R
   refine Ab (fun ((x,s):Ex×List UInt8)=>⟨77,[(0,.ptr 0 0 0),(2,.ptr 2 0 0),(4,.ptr 3 0 0)],[some (.row 2 [.agg [.str s,.bool true]]),some (.hid vs [.ptr 0 0 0]),some (.row 3 [.agg [.int .i64 0,.int .i64 0,.nils]]),some (.row 3 [Ah x])]⟩)
    (fun (x,s)=>suf x s=R) (fun (_,s)=>s.length) (x0,(Il sa 41)) hE ?_ hR ?_
   ·first
     | exact AP [0,2,4] rfl
     | exact Ro 3 rfl (AP [0,2,4] rfl)
   rintro ⟨x,s⟩ hI
   have hI:suf x s=R:=hI
   obtain ⟨k,t,ps⟩:=x
   cases s with
   | nil=>
     have hI:(Ex.mk k t ps,[])=R:=hI
     subst hI
     conv=>whnf
     repeat' refine MA rfl ?_<;>conv=>whnf
     refine A5 hE ?_
     conv=>whnf
     exact ⟨rfl,rfl,rfl,rfl,Do (.mk k t ps),rfl⟩
   | cons d s=>
     have hn:¬(d::s=[]):=by simp
     have hn1:Int.toNat 1≤(d::s).length:=by simp
     have hn0:Int.toNat 0 < (d::s).length:=by simp
     by_cases hs:Du d=true
     ·rw [Dp hs] at hI
      have h3:d=42∨d=43∨d=63:=by unfold Du at hs;simpa [or_assoc] using hs
      rcases h3 with rfl|rfl|rfl
      ·have hix:Fn1 Tryz.prog 89 [.str [42,43,63],.int .u8 (42:UInt8).toNat] (fun r=>r= .int .i64 0):=BJ [42,43,63] 42
       conv=>whnf
       repeat' (first|refine A1 ?_|refine AO ?_|refine AV ?_|refine AN hix hC Aw ?_)<;>conv=>whnf
       refine AK 4 (z:=3) (els:=[Ah (.mk k t ps)]) rfl ⟨Bh (.mk k t ps),trivial⟩ (AM [0,2,4] [] (.mk 4 0 [.mk k t ps],s) hI (Nat.lt_succ_self _) ?_)
       conv=>whnf
       simp only [List.set_cons_zero,B2 (.mk k t ps),Cb]
       rfl
      ·have hix:Fn1 Tryz.prog 89 [.str [42,43,63],.int .u8 (43:UInt8).toNat] (fun r=>r= .int .i64 1):=BJ [42,43,63] 43
       conv=>whnf
       repeat' (first|refine A1 ?_|refine AO ?_|refine AV ?_|refine AN hix hC Aw ?_)<;>conv=>whnf
       refine AK 4 (z:=3) (els:=[Ah (.mk k t ps)]) rfl ⟨Bh (.mk k t ps),trivial⟩ (AM [0,2,4] [] (.mk 5 0 [.mk k t ps],s) hI (Nat.lt_succ_self _) ?_)
       conv=>whnf
       simp only [List.set_cons_zero,B2 (.mk k t ps),Cb]
       rfl
      ·have hix:Fn1 Tryz.prog 89 [.str [42,43,63],.int .u8 (63:UInt8).toNat] (fun r=>r= .int .i64 2):=BJ [42,43,63] 63
       conv=>whnf
       repeat' (first|refine A1 ?_|refine AO ?_|refine AV ?_|refine AN hix hC Aw ?_)<;>conv=>whnf
       refine AK 4 (z:=3) (els:=[Ah (.mk k t ps)]) rfl ⟨Bh (.mk k t ps),trivial⟩ (AM [0,2,4] [] (.mk 6 0 [.mk k t ps],s) hI (Nat.lt_succ_self _) ?_)
       conv=>whnf
       simp only [List.set_cons_zero,B2 (.mk k t ps),Cb]
       rfl
     ·rw [Ee hs] at hI
      subst hI
      have h3:¬d=42∧¬d=43∧¬d=63:=by unfold Du at hs;simpa [and_assoc] using hs
      have hix:=BJ [42,43,63] d
      rw [Jb,if_neg h3.1,if_neg h3.2.1,if_neg h3.2.2] at hix
      conv=>whnf
      repeat' (first|refine A2 ?_|refine A1 ?_|refine AO ?_|refine AN hix hC Aw ?_)<;>conv=>whnf
      refine A5 hE ?_
      conv=>whnf
      exact ⟨rfl,rfl,rfl,rfl,Do (.mk k t ps),rfl⟩
 ·conv=>whnf
  repeat' (first|refine A1 ?_|refine AO ?_|refine GV (fun h=>?_) (fun h=>?_))<;>conv=>whnf
  all_goals
   generalize hR:suf (.mk 0 0 []) s0=R
   refine Ab (fun ((x,s):Ex×List UInt8)=>⟨77,[(0,.ptr 0 0 0),(2,.ptr 2 0 0),(4,.ptr 3 0 0)],[some (.row 2 [.agg [.str s,.bool true]]),some (.hid vs [.ptr 0 0 0]),some (.row 3 [.agg [.int .i64 0,.int .i64 0,.nils]]),some (.row 3 [Ah x])]⟩)
    (fun (x,s)=>suf x s=R) (fun (_,s)=>s.length) ((.mk 0 0 []),s0) hE ?_ hR ?_
   ·first
     | exact AP [0,2,4] rfl
     | exact Ro 3 rfl (AP [0,2,4] rfl)
   rintro ⟨x,s⟩ hI
   have hI:suf x s=R:=hI
   obtain ⟨k,t,ps⟩:=x
   cases s with
   | nil=>
     have hI:(Ex.mk k t ps,[])=R:=hI
     subst hI
     conv=>whnf
     repeat' refine MA rfl ?_<;>conv=>whnf
     refine A5 hE ?_
     conv=>whnf
     exact ⟨rfl,rfl,rfl,rfl,Do (.mk k t ps),rfl⟩
   | cons d s=>
     have hn:¬(d::s=[]):=by simp
     have hn1:Int.toNat 1≤(d::s).length:=by simp
     have hn0:Int.toNat 0 < (d::s).length:=by simp
     by_cases hs:Du d=true
     ·rw [Dp hs] at hI
      have h3:d=42∨d=43∨d=63:=by unfold Du at hs;simpa [or_assoc] using hs
      rcases h3 with rfl|rfl|rfl
      ·have hix:Fn1 Tryz.prog 89 [.str [42,43,63],.int .u8 (42:UInt8).toNat] (fun r=>r= .int .i64 0):=BJ [42,43,63] 42
       conv=>whnf
       repeat' (first|refine A1 ?_|refine AO ?_|refine AV ?_|refine AN hix hC Aw ?_)<;>conv=>whnf
       refine AK 4 (z:=3) (els:=[Ah (.mk k t ps)]) rfl ⟨Bh (.mk k t ps),trivial⟩ (AM [0,2,4] [] (.mk 4 0 [.mk k t ps],s) hI (Nat.lt_succ_self _) ?_)
       conv=>whnf
       simp only [List.set_cons_zero,B2 (.mk k t ps),Cb]
       rfl
      ·have hix:Fn1 Tryz.prog 89 [.str [42,43,63],.int .u8 (43:UInt8).toNat] (fun r=>r= .int .i64 1):=BJ [42,43,63] 43
       conv=>whnf
       repeat' (first|refine A1 ?_|refine AO ?_|refine AV ?_|refine AN hix hC Aw ?_)<;>conv=>whnf
       refine AK 4 (z:=3) (els:=[Ah (.mk k t ps)]) rfl ⟨Bh (.mk k t ps),trivial⟩ (AM [0,2,4] [] (.mk 5 0 [.mk k t ps],s) hI (Nat.lt_succ_self _) ?_)
       conv=>whnf
       simp only [List.set_cons_zero,B2 (.mk k t ps),Cb]
       rfl
      ·have hix:Fn1 Tryz.prog 89 [.str [42,43,63],.int .u8 (63:UInt8).toNat] (fun r=>r= .int .i64 2):=BJ [42,43,63] 63
       conv=>whnf
       repeat' (first|refine A1 ?_|refine AO ?_|refine AV ?_|refine AN hix hC Aw ?_)<;>conv=>whnf
       refine AK 4 (z:=3) (els:=[Ah (.mk k t ps)]) rfl ⟨Bh (.mk k t ps),trivial⟩ (AM [0,2,4] [] (.mk 6 0 [.mk k t ps],s) hI (Nat.lt_succ_self _) ?_)
       conv=>whnf
       simp only [List.set_cons_zero,B2 (.mk k t ps),Cb]
       rfl
     ·rw [Ee hs] at hI
      subst hI
      have h3:¬d=42∧¬d=43∧¬d=63:=by unfold Du at hs;simpa [and_assoc] using hs
      have hix:=BJ [42,43,63] d
      rw [Jb,if_neg h3.1,if_neg h3.2.1,if_neg h3.2.2] at hix
      conv=>whnf
      repeat' (first|refine A2 ?_|refine A1 ?_|refine AO ?_|refine AN hix hC Aw ?_)<;>conv=>whnf
      refine A5 hE ?_
      conv=>whnf
      exact ⟨rfl,rfl,rfl,rfl,Do (.mk k t ps),rfl⟩
def Im (f:List UInt8→PR) (s:List UInt8) (b:Bool):PR:=if b=true then (GP 2 [],s,true) else Ef f s
theorem Zj (f:List UInt8→PR) (n:Nat) (l:List Ex):CK f n [] l=(l,[],false):=by cases n<;>rfl
theorem Zk (l:List Ex) (x:Ex):List.take l.length (List.drop 0 (l.map Ah))++List.take 1 (List.drop 0 [V.agg [.int .i64 x.kind,.int .i64 x.type,.lst (KO x.parts)]])=(l++[x]).map Ah:=by
 rw [List.drop_zero,List.take_of_length_le (by simp),List.map_append]
 rfl
theorem My (l:List Ex) (x:Ex):l.length+(List.take 1 (List.drop 0 [V.agg [.int .i64 x.kind,.int .i64 x.type,.lst (KO x.parts)]])).length=(l++[x]).length:=by simp
theorem Ge (l:List Ex):(l.map Ah).length=l.length:=by simp
set_option maxHeartbeats 8000000 in
theorem eB (f:List UInt8→PR) (s0:List UInt8) (b0:Bool) (hlen:s0.length≤40) (hf:∀r:List UInt8,r.length < s0.length→Rv f r) (hz:∀r:List UInt8,r.length < s0.length→Zv f r):
 HFn Tryz.prog 39 [.ptr 0 0 0] (eA s0 b0) [0] (fun v o=>v=Ah (Im f s0 b0).1∧o=eA (Im f s0 b0).2.1 (Im f s0 b0).2.2):=by
 obtain ⟨l1,s1,b1,hseq⟩:∃l s b,(if b0=true then ([],s0,true) else CK f s0.length s0 [])=(l,s,b):=⟨_,_,_,rfl⟩
 have hA:Im f s0 b0=(GP 2 l1,s1,b1):=by
  unfold Im Ef
  cases b0
  ·simp only [Bool.false_eq_true,if_false] at hseq ⊢;rw [hseq]
  ·simp only [if_true] at hseq ⊢;cases hseq;rfl
 rw [hA]
 have h320:Ay []+8*s0.length≤320:=by simp [Bp];omega
 refine Tm ?_
 refine IJ Tryz.func39 fun C vs hC hE=>?_
 conv=>whnf
 skip
 refine Ab (fun ((n,l,s,b):Nat×List Ex×List UInt8×Bool)=>⟨39,[(0,.ptr 0 0 0),(2,.ptr 2 0 0),(3,.sl 3 0 l.length)],[some (.row 2 [.agg [.str s,.bool b]]),some (.hid vs [.ptr 0 0 0]),some (.row 3 [.agg [.int .i64 0,.int .i64 0,.nils]]),some (.row 3 (l.map Ah))]⟩)
  (fun (n,l,s,b)=>s.length≤n∧s.length≤s0.length∧Ay l+8*s.length≤320∧(if b=true then (l,s,true) else CK f n s l)=(l1,s1,b1)) (fun (n,_)=>n) (s0.length,[],s0,b0) hE ?_ ⟨Nat.le_refl _,Nat.le_refl _,h320,hseq⟩ ?_
 ·exact J9 3 3 rfl rfl (AP [0,2,3] rfl)
 rintro ⟨n,l,s,b⟩ ⟨hn,hs0,hsz,hI⟩
 have hn:s.length≤n:=hn
 have hs0:s.length≤s0.length:=hs0
 have hsz:Ay l+8*s.length≤320:=hsz
 have hI:(if b=true then (l,s,true) else CK f n s l)=(l1,s1,b1):=hI
 have hll:=Ec l
 have hlm:=Ge l
 have htw:=Ru 2 l (by omega)
 cases b with
 | true=>
   rw [if_pos rfl] at hI
   cases hI
   conv=>whnf
   repeat' (first|refine AY (A4 3 37 [0,2] (z:=3) rfl (Gb _) rfl (Ge _).symm rfl (AH ?_))|refine AN htw hC FX ?_)<;>conv=>whnf
   refine A5 hE ?_
   conv=>whnf
   exact ⟨rfl,rfl,rfl,rfl,Do _,rfl⟩
 | false=>
   simp only [Bool.false_eq_true,if_false] at hI
   cases s with
   | nil=>
     rw [Zj] at hI
     cases hI
     conv=>whnf
     repeat' (first|refine MA rfl ?_|refine AY (A4 3 37 [0,2] (z:=3) rfl (Gb _) rfl (Ge _).symm rfl (AH ?_))|refine AN htw hC FX ?_)<;>conv=>whnf
     refine A5 hE ?_
     conv=>whnf
     exact ⟨rfl,rfl,rfl,rfl,Do _,rfl⟩
   | cons c r=>
     have hne:¬(c::r=[]):=by simp
     have hi0:Int.toNat 0 < (c::r).length:=by simp
     cases n with
     | zero=>exact absurd hn (by simp)
     | succ n=>
     by_cases hst:c=124∨c=41
     ·rw [CK,if_pos hst] at hI
      cases hI
      have hst2:c.toNat=124∨c.toNat=41:=by rcases hst with h|h<;>rw [h]<;>decide
      rcases hst2 with hst2|hst2
      all_goals
       conv=>whnf
       repeat' (first|refine A2 ?_|refine A1 ?_|refine AO ?_|refine AY (A4 3 37 [0,2] (z:=3) rfl (Gb _) rfl (Ge _).symm rfl (AH ?_))|refine AN htw hC FX ?_)<;>conv=>whnf
       refine A5 hE ?_
       conv=>whnf
       exact ⟨rfl,rfl,rfl,rfl,Do _,rfl⟩
     ·have hst2:¬c.toNat=124∧¬c.toNat=41:=⟨fun e=>hst (.inl (UInt8.toNat_inj.1 e)),fun e=>hst (.inr (UInt8.toNat_inj.1 e))⟩
      obtain ⟨h124,h41⟩:=hst2
      rw [CK,if_neg hst] at hI
      simp only [List.length_cons] at hn hs0 hsz
      have hit:=fJ f c r (hf r (by omega))
      have hiz:=Vi c r (hz r (by omega))
      obtain ⟨x,s',b',hx⟩:∃x s b,Cj f c r=(x,s,b):=⟨_,_,_,rfl⟩
      rw [hx] at hit hiz hI
      simp only at hit hiz hI
      have hap:=Zk l x
      have hal:=My l x
      conv=>whnf
      repeat' (first|refine A1 ?_|refine AO ?_|refine B1 hit hC Ui 0 rfl trivial (Bh _) rfl ⟨⟨trivial,trivial,trivial⟩,trivial⟩ ⟨⟨trivial,trivial,trivial⟩,trivial⟩ ?_|refine EN (Nat.le_refl 1) ?_|(refine EN ⟨?_,?_,?_⟩ ?_;omega;(show _+1≤9223372036854775807;omega);(show (_+1)*_≤140737488355328;omega)))<;>conv=>whnf
      all_goals
       refine AM [0,2,3] [4] (n,l++[x],s',b') ⟨?_,?_,?_,?_⟩ (Nat.lt_succ_self n) ?_
       ·show s'.length≤n;omega
       ·show s'.length≤s0.length;omega
       ·show Ay (l++[x])+8*s'.length≤320
        rw [Eg,Ck];omega
       ·show (if b'=true then (l++[x],s',true) else CK f n s' (l++[x]))=(l1,s1,b1)
        rw [←hI]
       ·conv=>whnf
        rw [hap,E3,E3,hal]
        rfl
theorem iT (f:List UInt8→PR) (s0:List UInt8) (hlen:s0.length≤40) (hf:∀r:List UInt8,r.length < s0.length→Rv f r) (hz:∀r:List UInt8,r.length < s0.length→Zv f r) (g:List UInt8→PR)
 (hg:g s0=(GP 3 (DG f s0.length (Ef f s0).2.1 (Ef f s0).2.2 [(Ef f s0).1]).1,(DG f s0.length (Ef f s0).2.1 (Ef f s0).2.2 [(Ef f s0).1]).2)):Rv g s0:=by
 unfold Rv
 rw [hg]
 have hps:=P7 (f:=f) s0 hz
 have hsq:=eB f s0 false hlen hf hz
 rw [show Im f s0 false=Ef f s0 from rfl] at hsq
 obtain ⟨x0,s0',b0,hp⟩:∃x s b,Ef f s0=(x,s,b):=⟨_,_,_,rfl⟩
 rw [hp] at hps hsq ⊢
 simp only at hps hsq ⊢
 obtain ⟨l1,s1,b1,halt⟩:∃l s b,DG f s0.length s0' b0 [x0]=(l,s,b):=⟨_,_,_,rfl⟩
 rw [halt]
 have h324:Ay [x0]+8*s0'.length≤324:=by rw [Ck];omega
 have hs0':s0'.length≤s0.length:=hps.2
 refine Tm ?_
 refine IJ Tryz.func17 fun C vs hC hE=>?_
 conv=>whnf
 repeat' refine B1 hsq hC Ng 0 rfl trivial (Bh _) rfl ⟨⟨trivial,trivial,trivial⟩,trivial⟩ ⟨⟨trivial,trivial,trivial⟩,trivial⟩ ?_<;>conv=>whnf
 refine Ab (fun ((n,l,s,b):Nat×List Ex×List UInt8×Bool)=>⟨16,[(0,.ptr 0 0 0),(2,.ptr 2 0 0),(3,.sl 3 0 l.length)],[some (.row 2 [.agg [.str s,.bool b]]),some (.hid vs [.ptr 0 0 0]),some (.row 3 [.agg [.int .i64 0,.int .i64 0,.nils]]),some (.row 3 (l.map Ah))]⟩)
  (fun (n,l,s,b)=>s.length≤n∧s.length≤s0.length∧Ay l+8*s.length≤324∧DG f n s b l=(l1,s1,b1)) (fun (n,_)=>n) (s0.length,[x0],s0',b0) hE ?_ ⟨hs0',hs0',h324,halt⟩ ?_
 ·exact AP [0,2,3] rfl
 rintro ⟨n,l,s,b⟩ ⟨hn,hs0,hsz,hI⟩
 have hn:s.length≤n:=hn
 have hs0:s.length≤s0.length:=hs0
 have hsz:Ay l+8*s.length≤324:=hsz
 have hI:DG f n s b l=(l1,s1,b1):=hI
 have hll:=Ec l
 have hlm:=Ge l
 have htw:=Ru 3 l (by omega)
 have htk:=Ve s b 124
 cases s with
 | nil=>
   have e1:DG f n [] b l=(l,[],b):=by cases n<;>rfl
   rw [e1] at hI
   cases hI
   conv=>whnf
   repeat' (first|refine B1 htk hC FW 0 rfl ⟨trivial,trivial⟩ trivial rfl ⟨⟨trivial,trivial,trivial⟩,trivial⟩ ⟨⟨trivial,trivial,trivial⟩,trivial⟩ ?_|refine AY (A4 3 14 [0,2] (z:=3) rfl (Gb _) rfl (Ge _).symm rfl (AH ?_))|refine AN htw hC FX ?_)<;>conv=>whnf
   refine A5 hE ?_
   conv=>whnf
   exact ⟨rfl,rfl,rfl,rfl,Do _,rfl⟩
 | cons c r=>
   cases n with
   | zero=>exact absurd hn (by simp)
   | succ n=>
   by_cases h124:c=124
   ·have ht:Mx (c::r) 124=true:=by rw [h124];rfl
    have hs:Il (c::r) 124=r:=by rw [h124];rfl
    rw [ht,hs] at htk
    rw [DG,if_pos h124] at hI
    simp only [List.length_cons] at hn hs0 hsz
    have hsq2:=eB f r b (by omega) (fun q hq=>hf q (by omega)) (fun q hq=>hz q (by omega))
    have hpz:=P7 (f:=f) r (fun q hq=>hz q (by omega))
    have hI2:DG f n (Im f r b).2.1 (Im f r b).2.2 (l++[(Im f r b).1])=(l1,s1,b1):=by
     rw [←hI]
     unfold Im
     cases b<;>rfl
    have hsz2:El (Im f r b).1+8*(Im f r b).2.1.length≤8*r.length+4∧(Im f r b).2.1.length≤r.length:=by
     unfold Im
     split
     ·have:El (GP 2 [])=4:=by rw [Vh,CQ];simp [Bp]
      simp only;omega
     ·exact hpz
    obtain ⟨x,s',b',hx⟩:∃x s b',Im f r b=(x,s,b'):=⟨_,_,_,rfl⟩
    rw [hx] at hsq2 hsz2 hI2
    simp only at hsq2 hsz2 hI2
    have hap:=Zk l x
    have hal:=My l x
    conv=>whnf
    repeat' (first|refine B1 htk hC FW 0 rfl ⟨trivial,trivial⟩ trivial rfl ⟨⟨trivial,trivial,trivial⟩,trivial⟩ ⟨⟨trivial,trivial,trivial⟩,trivial⟩ ?_|refine B1 hsq2 hC Ng 0 rfl trivial (Bh _) rfl ⟨⟨trivial,trivial,trivial⟩,trivial⟩ ⟨⟨trivial,trivial,trivial⟩,trivial⟩ ?_|refine EN (Nat.le_refl 1) ?_|(refine EN ⟨?_,?_,?_⟩ ?_;omega;(show _+1≤9223372036854775807;omega);(show (_+1)*_≤140737488355328;omega)))<;>conv=>whnf
    all_goals
     refine AM [0,2,3] [4] (n,l++[x],s',b') ⟨?_,?_,?_,hI2⟩ (Nat.lt_succ_self n) ?_
     ·show s'.length≤n;omega
     ·show s'.length≤s0.length;omega
     ·show Ay (l++[x])+8*s'.length≤324
      rw [Eg,Ck];omega
     ·conv=>whnf
      rw [hap,E3,E3,hal]
      rfl
   ·have ht:Mx (c::r) 124=false:=by unfold Mx;rw [decide_eq_false_iff_not];simpa using h124
    have hs:Il (c::r) 124=c::r:=by unfold Il;rw [if_neg (by simpa using h124)]
    rw [ht,hs] at htk
    rw [DG,if_neg h124] at hI
    cases hI
    conv=>whnf
    repeat' (first|refine B1 htk hC FW 0 rfl ⟨trivial,trivial⟩ trivial rfl ⟨⟨trivial,trivial,trivial⟩,trivial⟩ ⟨⟨trivial,trivial,trivial⟩,trivial⟩ ?_|refine AY (A4 3 14 [0,2] (z:=3) rfl (Gb _) rfl (Ge _).symm rfl (AH ?_))|refine AN htw hC FX ?_)<;>conv=>whnf
    refine A5 hE ?_
    conv=>whnf
    exact ⟨rfl,rfl,rfl,rfl,Do _,rfl⟩
theorem Rw:∀(n:Nat) (s:List UInt8),s.length < n→s.length≤40→Rv (C9 n) s
 | 0,s,h,_=>absurd h (Nat.not_lt_zero _)
 | n+1,s,h,h40=>iT (C9 n) s h40 (fun r hr=>Rw n r (by omega) (by omega)) (fun r hr=>LY n r (by omega)) (C9 (n+1)) rfl
def Tn (p:Ex×Int):V:=.tup [Ah p.1,.int .i64 p.2]
theorem Hd (x:Ex) (e:Int):(V.tup [Ah x,.int .i64 e]).nl= .tup [Ah x,.int .i64 e]:=by simp only [V.nl,LD,Do]
theorem Zl (s:List UInt8) (h:s.length≤40):El (C9 41 s).1≤1048576:=by
 have:=(LY 41 s (by omega)).1
 omega
set_option maxHeartbeats 4000000 in
theorem Mz (s:List UInt8):Fn1 Tryz.prog 9 [.str s] (fun r=>r=Tn (P6 s)):=by
 unfold P6
 refine Pq ?_
 by_cases hl:40 < s.length
 ·rw [if_pos hl]
  refine Ax Tryz.func9 fun C hC hE=>?_
  conv=>whnf
  repeat' (first|refine A2 ?_|refine AC hE ?_|intro hlen)<;>conv=>whnf
  exact ⟨rfl,Hd (.mk 0 0 []) 1⟩
 ·rw [if_neg hl]
  have hal:=Rw 41 s (by omega) (by omega)
  have hsz:=Zl s (by omega)
  have hck:=If (C9 41 s).1 hsz
  unfold Rv at hal
  generalize C9 41 s=p at*
  obtain ⟨x,t,b⟩:=p
  simp only at hal hck ⊢
  cases b with
  | true=>
    rw [if_pos (.inl rfl)]
    refine Ax Tryz.func9 fun C hC hE=>?_
    conv=>whnf
    repeat' (first|refine A1 ?_|refine B1 hal hC DX 1 rfl trivial (Bh _) rfl ⟨⟨trivial,trivial,trivial⟩,trivial⟩ ⟨⟨trivial,trivial,trivial⟩,trivial⟩ ?_|refine AC hE ?_|intro hlen)<;>conv=>whnf
    all_goals exact ⟨rfl,Hd (.mk 0 0 []) 4⟩
  | false=>
    by_cases ht:t=[]
    ·rw [if_neg (by simp [ht])]
     by_cases hc:ZR x=0
     ·rw [if_neg (by simp [hc])]
      rw [hc] at hck
      subst ht
      have h0:([]:List UInt8)=[]:=rfl
      refine Ax Tryz.func9 fun C hC hE=>?_
      conv=>whnf
      repeat' (first|refine A2 ?_|refine A1 ?_|refine B1 hal hC DX 1 rfl trivial (Bh _) rfl ⟨⟨trivial,trivial,trivial⟩,trivial⟩ ⟨⟨trivial,trivial,trivial⟩,trivial⟩ ?_|refine AN hck hC Gm ?_|refine AC hE ?_|intro hlen)<;>conv=>whnf
      all_goals exact ⟨rfl,Hd x 0⟩
     ·rw [if_pos (by simp [hc])]
      subst ht
      have h0:([]:List UInt8)=[]:=rfl
      refine Ax Tryz.func9 fun C hC hE=>?_
      conv=>whnf
      repeat' (first|refine A2 ?_|refine A1 ?_|refine B1 hal hC DX 1 rfl trivial (Bh _) rfl ⟨⟨trivial,trivial,trivial⟩,trivial⟩ ⟨⟨trivial,trivial,trivial⟩,trivial⟩ ?_|refine AN hck hC Gm ?_|refine AC hE ?_|intro hlen)<;>conv=>whnf
      all_goals exact ⟨rfl,Hd (.mk 0 0 []) 4⟩
    ·rw [if_pos (.inr ht)]
     refine Ax Tryz.func9 fun C hC hE=>?_
     conv=>whnf
     repeat' (first|refine A1 ?_|refine B1 hal hC DX 1 rfl trivial (Bh _) rfl ⟨⟨trivial,trivial,trivial⟩,trivial⟩ ⟨⟨trivial,trivial,trivial⟩,trivial⟩ ?_|refine AC hE ?_|intro hlen)<;>conv=>whnf
     all_goals exact ⟨rfl,Hd (.mk 0 0 []) 4⟩
theorem aI (x:Int):Fn1 Tryz.prog 68 [.int .i64 x] (fun r=>r= .bool (decide (0≤x))):=by
 refine Ax Tryz.func68 fun C hC hE=>?_
 conv=>whnf
 repeat' (first|refine GV (fun h=>?_) (fun h=>?_)|refine AC hE ?_)<;>conv=>whnf
 ·exact ⟨rfl,by rw [decide_eq_true (by omega)]⟩
 ·exact ⟨rfl,by rw [decide_eq_false (by omega)]⟩
set_option maxHeartbeats 16000000 in
theorem QQ (s:List UInt8) (x:Ex) (m:Mc) (ty tx:Nat) (hs:P6 s=(x,0)) (hMk:Fn1G Tryz.prog GT 12 [Ah x] (fun r=>r= .tup [BB m,.int .i64 0]))
 (h8:∀r∈m.N,r.length=8) (h40:m.N.length≤40) (ht:ty≤8) (hx:tx < 8) (hty:∀r∈m.N,∀y∈r.drop ty,y < 0) (hto:∀r∈m.N,∀y∈r,y < m.N.length) (htx:∀r∈m.N,r.getD tx (-1) < 0∨(m.N.getD (r.getD tx (-1)).toNat []).getD tx (-1) < 0):
 Fn1G Tryz.prog GT 35 [.str s,.int .i64 ty,.int .i64 tx] (fun r=>r= .tup [BB m,.int .i64 0]):=by
 have hp:=Mz s
 rw [hs] at hp
 unfold Tn at hp
 have hNm:(m.N.map AL).length=m.N.length:=by simp
 refine GN Tryz.func35 fun C hC hW hG hE=>?_
 conv=>whnf
 have hmk:=hMk.c hC hW CD hG
 repeat' (first|refine A2 ?_|refine AN hp hC H9 ?_|(unfold BB at hmk;refine RT hmk hC Gk rfl ?_ ?_ ?_;kernel_rfl;kernel_rfl)|intro hlen)<;>conv=>whnf
 refine Ab (fun i:Nat=>⟨77,[(1,.int .i64 ty),(2,.int .i64 tx),(6,.ptr 0 0 0),(10,.ptr 2 0 0),(32,.lst (m.N.map AL)),(33,.int .i64 (m.N.map AL).length),(34,.int .i64 i)],[some (.row 2 [.agg [.nils,.nils]]),none,some (.row 2 [.agg [.lst (m.N.map AL),.lst (m.F.map V.bool)]])]⟩) (fun i=>i≤m.N.length) (fun i=>m.N.length - i) 0 hE ?_ (Nat.zero_le _) ?_
 ·refine BN 1 (AP [1,2,6,10,32,33,34] ?_)
  conv=>whnf
  rfl
 intro i hi
 by_cases hlt:i < m.N.length
 ·obtain ⟨row,hrow⟩:∃row,m.N[i]?=some row:=⟨_,List.getElem?_eq_getElem hlt⟩
  have gr:(m.N.map AL)[i]?=some (AL row):=by rw [List.getElem?_map,hrow];rfl
  have hmem:=List.mem_of_getElem? hrow
  have hr8:=h8 row hmem
  have hrm:(row.map (V.int .i64)).length=row.length:=by simp
  have hcf:=B8 (row.drop ty) 68 [] (fun x=>decide (0≤x)) (by kernel_rfl) rfl (fun x _=>aI x)
  have hno:((row.drop ty).any fun x=>decide (0≤x))=false:=by
   rw [List.any_eq_false]
   intro y hy
   have:=hty row hmem y hy
   simp only [decide_eq_true_eq]
   omega
  rw [hno,List.map_drop] at hcf
  conv=>whnf
  repeat' (first|refine A2 ?_|refine AO ?_|refine AV ?_|refine Ad ?_|refine ⟨CR row,?_⟩|refine AN hcf hC EF ?_)<;>conv=>whnf
  refine AD [1,2,6,10,32,33,34] (i+1) hlt (by omega) ?_
  conv=>whnf
  rfl
 ·obtain rfl:i=m.N.length:=by omega
  conv=>whnf
  repeat' (first|refine A1 ?_|intro hlen)<;>conv=>whnf
  refine Ab (fun i:Nat=>⟨77,[(2,.int .i64 tx),(6,.ptr 0 0 0),(10,.ptr 2 0 0),(45,.lst (m.N.map AL)),(46,.int .i64 (m.N.map AL).length),(47,.int .i64 i)],[some (.row 2 [.agg [.nils,.nils]]),none,some (.row 2 [.agg [.lst (m.N.map AL),.lst (m.F.map V.bool)]])]⟩) (fun i=>i≤m.N.length) (fun i=>m.N.length - i) 0 hE ?_ (Nat.zero_le _) ?_
  ·refine AP [2,6,10,45,46,47] ?_
   conv=>whnf
   rfl
  intro i hi
  by_cases hlt:i < m.N.length
  ·obtain ⟨row,hrow⟩:∃row,m.N[i]?=some row:=⟨_,List.getElem?_eq_getElem hlt⟩
   have gr:(m.N.map AL)[i]?=some (AL row):=by rw [List.getElem?_map,hrow];rfl
   have hmem:=List.mem_of_getElem? hrow
   have hr8:=h8 row hmem
   obtain ⟨y,hy⟩:∃y,row[tx]?=some y:=⟨_,List.getElem?_eq_getElem (by omega)⟩
   have gy:(row.map (V.int .i64))[Int.toNat (tx:Int)]?=some (.int .i64 y):=by rw [Int.toNat_natCast,List.getElem?_map,hy];rfl
   have hyD:row.getD tx (-1)=y:=by rw [List.getD_eq_getElem?_getD,hy];rfl
   have h2:=htx row hmem
   rw [hyD] at h2
   by_cases hy0:y < 0
   ·conv=>whnf
    repeat' (first|refine A2 ?_|refine A1 ?_|refine AO ?_|refine AV ?_|refine Ad ?_|(refine An hE ?_ ?_;decide +kernel))<;>conv=>whnf
    refine AD [2,6,10,45,46,47] (i+1) hlt (by omega) ?_
    conv=>whnf
    rfl
   ·have hyn:=hto row hmem y (List.mem_of_getElem? hy)
    obtain ⟨row2,hrow2⟩:∃row2,m.N[y.toNat]?=some row2:=⟨_,List.getElem?_eq_getElem (by omega)⟩
    have gr2:(m.N.map AL)[Int.toNat y]?=some (AL row2):=by rw [List.getElem?_map,hrow2];rfl
    have hr28:=h8 row2 (List.mem_of_getElem? hrow2)
    obtain ⟨z,hz⟩:∃z,row2[tx]?=some z:=⟨_,List.getElem?_eq_getElem (by omega)⟩
    have gz:(row2.map (V.int .i64))[Int.toNat (tx:Int)]?=some (.int .i64 z):=by rw [Int.toNat_natCast,List.getElem?_map,hz];rfl
    have hz0:z < 0:=by
     rcases h2 with h|h
     ·exact absurd h hy0
     ·have e:m.N.getD y.toNat []=row2:=by rw [List.getD_eq_getElem?_getD,hrow2];rfl
      rw [e,List.getD_eq_getElem?_getD,hz] at h
      exact h
    conv=>whnf
    repeat' (first|refine A2 ?_|refine A1 ?_|refine AO ?_|refine AV ?_|refine Ad ?_|(refine An hE ?_ ?_;decide +kernel))<;>conv=>whnf
    refine AD [2,6,10,45,46,47] (i+1) hlt (by omega) ?_
    conv=>whnf
    rfl
  ·conv=>whnf
   repeat' (first|refine A1 ?_|refine AC hE ?_)<;>conv=>whnf
   exact ⟨rfl,rfl⟩
end Go.Proofs.YtkaiffheakalmaaGreatDoor
