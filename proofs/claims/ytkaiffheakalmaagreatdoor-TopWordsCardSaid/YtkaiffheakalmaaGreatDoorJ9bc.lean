/- Joined. No conditions. -/
import Derived.Test.YtkaiffheakalmaaGreatDoorJ9ba
import Derived.Test.YtkaiffheakalmaaGreatDoorJ9bb
set_option linter.unusedSimpArgs false
set_option linter.unusedVariables false
set_option maxRecDepth 100000
namespace Go.Proofs.YtkaiffheakalmaaGreatDoor
open Go.RowKit
theorem Fm {C:Ctx} {K:ES→Prop} (p c z':Nat) {z n:Nat} {l:List V} {u:List (Nat×V)} {h:List (Option Ob)} (ho:h[p]?=some (some (.row z l))) (hl:l[c]?=some .nils)
 (hk:UpE C K ⟨n,u,(Ag h (.row z' [])).set p (some (.row z (l.set c (.sl (AG h) 0 0))))⟩):UpE C K ⟨n,u,h⟩:=by
 refine ⟨BS (fun a w hr=>?_) hk.out⟩
 obtain ⟨I,bl,hp0⟩:=hr.parts
 have hp:=hp0.adopt z'
 have hne:p≠AG h:=fun e=>Ow h _ (e▸ho)
 have ho':(Ag h (.row z' []))[p]?=some (some (.row z l)):=(Be h _ p hne).trans ho
 have hpl:p < (Ag h (.row z' [])).length:=(List.getElem?_eq_some_iff.1 ho').1
 refine RP.rel (I:=I) (bl:=GQ bl (AG h) ⟨none,0,z'⟩) ⟨hp.defers,hp.env,⟨fun id o hoo=>?_,fun id i hi=>?_,hp.heap.apart,hp.heap.own,hp.heap.imm,hp.heap.kept⟩⟩
 ·have hoo:((Ag h (.row z' [])).set p (some (.row z (l.set c (.sl (AG h) 0 0)))))[id]?=some (some o):=hoo
  by_cases e:id=p
  ·subst e
   rw [List.getElem?_set_self hpl] at hoo
   simp only [Option.some.injEq] at hoo
   subst hoo
   obtain ⟨bi,h1,h2,h3,h4⟩:=hp.heap.obj id _ ho'
   have hlt:c < l.length:=(List.getElem?_eq_some_iff.1 hl).1
   refine ⟨bi,h1,h2,fun i x hx=>?_,?_⟩
   ·by_cases hic:i=c
    ·subst hic
     rw [List.getElem?_set_self hlt] at hx
     simp only [Option.some.injEq] at hx
     subst hx
     exact h3 i .nils hl
    ·rw [List.getElem?_set_ne (Ne.symm hic)] at hx
     exact h3 i x hx
   ·cases hbl:bi.blk with
    | none=>
      simp only [hbl] at h4
      subst h4
      simp at hl
    | some b=>
      simp only [hbl] at h4 ⊢
      obtain ⟨cur,e,hg,hsz,hc⟩:=h4
      refine ⟨cur,e,hg,by simpa using hsz,fun i x j v hx hxc=>?_⟩
      by_cases hic:i=c
      ·subst hic
       rw [List.getElem?_set_self hlt] at hx
       simp only [Option.some.injEq] at hx
       subst hx
       match j,hxc with
       | 0,hxc=>
         simp only [V.cells,List.getElem?_cons_zero,Option.some.injEq] at hxc
         subst hxc
         obtain ⟨y,hy,h1',hr'⟩:=hc i .nils 0 .nils hl rfl
         have:=hr'.inv_nils
         subst this
         exact ⟨_,hy,h1',.nsl _ _ _ (AT _ _ _)⟩
       | j+1,hxc=>simp [V.cells] at hxc
      ·rw [List.getElem?_set_ne (Ne.symm hic)] at hx
       exact hc i x j v hx hxc
  ·rw [List.getElem?_set_ne (Ne.symm e)] at hoo
   exact hp.heap.obj id o hoo
 ·show ∃o,((Ag h (.row z' [])).set p (some (.row z (l.set c (.sl (AG h) 0 0)))))[id]?=some (some o)
  by_cases e:id=p
  ·subst e;exact ⟨_,List.getElem?_set_self hpl⟩
  ·rw [List.getElem?_set_ne (Ne.symm e)]
   exact hp.heap.live id i hi
def R8 (p:Pt):V:=.agg [.lst (p.first.map (V.int .i64)),.lst (p.last.map (V.int .i64)),.bool p.none]
theorem DO (n:Nat):∀a b:List V,CP n (a++b)=(CP n a&&CP n b)
 | [],b=>by simp [CP]
 | x::a,b=>by simp only [List.cons_append,CP,DO n a b,Bool.and_assoc]
theorem Zy {C:Ctx} {K:ES→Prop} {vs:List Value} (P:List V) (t:Int) (n:Nat) (T0 L R0 R1 R2 R3 y10 y11:List V) (x8:V) (hTn:BT T0) (hfL:∀id els,8≤id→Ai id els L=L)
 (n0:BT R0) (n1:BT R1) (n2:BT R2) (n3:BT R3) (ny10:BT y10) (ny11:BT y11) (n8:BT [x8]) {u:List (Nat×V)}
 (hk:UpE C K ⟨Tryz.f52.ntmps,Fw 13 [.int .i64 n] (Fw 12 [.int .i64 n] u),[some (.row 5 [.agg [.sl 1 0 (n+1),.sl 2 0 (n+1),.nils,.nils,.bool false]]),some (.row 1 (T0++[.int .i64 t])),some (.row 1 (L++[.nils])),some (.row 1 R0),some (.row 1 R1),some (.row 1 R2),some (.row 1 R3),some (.hid vs [.ptr 0 0 0,.agg [.int .i64 1,.int .i64 t,.lst P]]),some (.row 3 [x8]),some (.row 3 [.agg [.lst [.int .i64 n],.lst [.int .i64 n],.bool false]]),some (.row 1 y10),some (.row 1 y11),none,none]⟩):
 UpE C K ⟨Tryz.f52.ntmps,u,[some (.row 5 [.agg [.sl 1 0 (n+1),.sl 2 0 (n+1),.nils,.nils,.bool false]]),some (.row 1 (T0++[.int .i64 t])),some (.row 1 (L++[.nils])),some (.row 1 R0),some (.row 1 R1),some (.row 1 R2),some (.row 1 R3),some (.hid vs [.ptr 0 0 0,.agg [.int .i64 1,.int .i64 t,.lst P]]),some (.row 3 [x8]),some (.row 3 [.agg [.sl 12 0 1,.sl 13 0 1,.bool false]]),some (.row 1 y10),some (.row 1 y11),some (.row 1 [.int .i64 n]),some (.row 1 [.int .i64 n])]⟩:=by
 have nT:BT (T0++[.int .i64 t]):=(GS _ _).2 ⟨hTn,trivial,trivial⟩
 refine AK 12 rfl ⟨trivial,trivial⟩ (AK 13 rfl ⟨trivial,trivial⟩ (A0 _ ?_ hk))
 conv=>whnf
 simp only [Rp,hfL _ _ (show 8≤12 by decide),hfL _ _ (show 8≤13 by decide),AX _ _ hTn,AX _ _ n0,AX _ _ n1,AX _ _ n2,AX _ _ n3,AX _ _ n8,AX _ _ ny10,AX _ _ ny11]
 rfl
theorem QD {C:Ctx} {vs:List Value} (hE:EOk Tryz.tt C) (P:List V) (t:Int) (o0 o1 o2 o3 o4 o5 o6:List V) (S':Ps) (n:Nat) (h4:n≤3) (T0 L R0 R1 R2 R3 y10 y11:List V) (x8:V) (hTn:BT T0) (hLl:L.length=n) (hkL:AF (3+n) L=L)
 (n0:BT R0) (n1:BT R1) (n2:BT R2) (n3:BT R3) (ny10:BT y10) (ny11:BT y11) (n8:BT [x8]) (w:CP 7 (T0++[.int .i64 t])=true) (wL:CP 7 L=true) (w0:CP 7 R0=true) (w1:CP 7 R1=true) (w2:CP 7 R2=true) (w3:CP 7 R3=true)
 (hfin:[.row 5 [.agg [.sl 1 0 (n+1),.sl 2 0 (n+1),.nils,.nils,.bool false]],.row 1 (T0++[.int .i64 t]),.row 1 (L++[.sl (3+n) 0 0]),.row 1 (if n=0 then [] else R0),.row 1 (if n=1 then [] else R1),.row 1 (if n=2 then [] else R2),.row 1 (if n=3 then [] else R3)]=Bt S')
 {u:List (Nat×V)} (hu:AU u 4= .ptr 9 0 0):
 HRetN Tryz.tt C Tryz.f52 [.ptr 0 0 0,.agg [.int .i64 1,.int .i64 t,.lst P]] [.row 5 o0,.row 1 o1,.row 1 o2,.row 1 o3,.row 1 o4,.row 1 o5,.row 1 o6] vs [0] (fun r o=>r=R8 ⟨[(n:Int)],[(n:Int)],false⟩∧o=Bt S') ⟨Tryz.f52.ntmps,u,[some (.row 5 [.agg [.sl 1 0 (n+1),.sl 2 0 (n+1),.nils,.nils,.bool false]]),some (.row 1 (T0++[.int .i64 t])),some (.row 1 (L++[.nils])),some (.row 1 R0),some (.row 1 R1),some (.row 1 R2),some (.row 1 R3),some (.hid vs [.ptr 0 0 0,.agg [.int .i64 1,.int .i64 t,.lst P]]),some (.row 3 [x8]),some (.row 3 [.agg [.lst [.int .i64 n],.lst [.int .i64 n],.bool false]]),some (.row 1 y10),some (.row 1 y11),none,none]⟩:=by
 have nT:BT (T0++[.int .i64 t]):=(GS _ _).2 ⟨hTn,trivial,trivial⟩
 have hg:(L++[V.nils])[n]?=some V.nils:=by rw [List.getElem?_append_right (by omega),hLl,Nat.sub_self];rfl
 have hs:∀x:V,(L++[V.nils]).set n x=L++[x]:=fun x=>by rw [List.set_append_right _ _ (by omega),hLl,Nat.sub_self];rfl
 have hkn:AF (3+n) (L++[V.nils])=L++[V.nils]:=by rw [BH,hkL];rfl
 rcases (by omega:n=0∨n=1∨n=2∨n=3) with rfl|rfl|rfl|rfl
 ·refine Ap (BN 3 (A0 [some (.row 5 [.agg [.sl 1 0 (0+1),.sl 2 0 (0+1),.nils,.nils,.bool false]]),some (.row 1 (T0++[.int .i64 t])),some (.row 1 (L++[.nils])),none,some (.row 1 R1),some (.row 1 R2),some (.row 1 R3),some (.hid vs [.ptr 0 0 0,.agg [.int .i64 1,.int .i64 t,.lst P]]),some (.row 3 [x8]),some (.row 3 [.agg [.lst [.int .i64 (0:Nat)],.lst [.int .i64 (0:Nat)],.bool false]]),some (.row 1 y10),some (.row 1 y11),none,none] ?_ (Fm 2 0 1 rfl hg (A0 [some (.row 5 [.agg [.sl 1 0 (0+1),.sl 2 0 (0+1),.nils,.nils,.bool false]]),some (.row 1 (T0++[.int .i64 t])),some (.row 1 (L++[.sl 3 0 0])),some (.row 1 []),some (.row 1 R1),some (.row 1 R2),some (.row 1 R3),some (.hid vs [.ptr 0 0 0,.agg [.int .i64 1,.int .i64 t,.lst P]]),some (.row 3 [x8]),some (.row 3 [.agg [.lst [.int .i64 (0:Nat)],.lst [.int .i64 (0:Nat)],.bool false]]),some (.row 1 y10),some (.row 1 y11),none,none] ?_ (HO [4] (σ':=⟨Tryz.f52.ntmps,[(4,.ptr 9 0 0)],[some (.row 5 [.agg [.sl 1 0 (0+1),.sl 2 0 (0+1),.nils,.nils,.bool false]]),some (.row 1 (T0++[.int .i64 t])),some (.row 1 (L++[.sl 3 0 0])),some (.row 1 []),some (.row 1 R1),some (.row 1 R2),some (.row 1 R3),some (.hid vs [.ptr 0 0 0,.agg [.int .i64 1,.int .i64 t,.lst P]]),some (.row 3 [x8]),some (.row 3 [.agg [.lst [.int .i64 (0:Nat)],.lst [.int .i64 (0:Nat)],.bool false]]),some (.row 1 y10),some (.row 1 y11),none,none]⟩) ?_ (A5 hE ?_))))))
  ·conv=>whnf
   simp only [AA _ nT,AA _ n0,AA _ n1,AA _ n2,AA _ n3,AA _ n8,AA _ ny10,AA _ ny11]
   rw [show AF 3 (L++[V.nils])=L++[V.nils] from hkn]
   rfl
  ·conv=>whnf
   rw [hs]
   rfl
  ·show (⟨_,Az [4] (u.map fun p=>(p.1,p.2.kill 3)),_⟩:ES)=_
   have:AU (u.map fun p=>(p.1,p.2.kill 3)) 4= .ptr 9 0 0:=by rw [CH,hu];rfl
   simp only [Az,List.map_cons,List.map_nil,this]
  ·conv=>whnf
   refine ⟨rfl,rfl,rfl,?_,rfl,hfin⟩
   have wl:CP 7 (L++[V.sl 3 0 0])=true:=by rw [DO,wL];rfl
   show Cg 7 _=true
   simp only [Cg,Ob.low,w,wl,w0,w1,w2,w3,Bool.true_and,Bool.and_true]
   rfl
 ·refine Ap (BN 4 (A0 [some (.row 5 [.agg [.sl 1 0 (1+1),.sl 2 0 (1+1),.nils,.nils,.bool false]]),some (.row 1 (T0++[.int .i64 t])),some (.row 1 (L++[.nils])),some (.row 1 R0),none,some (.row 1 R2),some (.row 1 R3),some (.hid vs [.ptr 0 0 0,.agg [.int .i64 1,.int .i64 t,.lst P]]),some (.row 3 [x8]),some (.row 3 [.agg [.lst [.int .i64 (1:Nat)],.lst [.int .i64 (1:Nat)],.bool false]]),some (.row 1 y10),some (.row 1 y11),none,none] ?_ (Fm 2 1 1 rfl hg (A0 [some (.row 5 [.agg [.sl 1 0 (1+1),.sl 2 0 (1+1),.nils,.nils,.bool false]]),some (.row 1 (T0++[.int .i64 t])),some (.row 1 (L++[.sl 4 0 0])),some (.row 1 R0),some (.row 1 []),some (.row 1 R2),some (.row 1 R3),some (.hid vs [.ptr 0 0 0,.agg [.int .i64 1,.int .i64 t,.lst P]]),some (.row 3 [x8]),some (.row 3 [.agg [.lst [.int .i64 (1:Nat)],.lst [.int .i64 (1:Nat)],.bool false]]),some (.row 1 y10),some (.row 1 y11),none,none] ?_ (HO [4] (σ':=⟨Tryz.f52.ntmps,[(4,.ptr 9 0 0)],[some (.row 5 [.agg [.sl 1 0 (1+1),.sl 2 0 (1+1),.nils,.nils,.bool false]]),some (.row 1 (T0++[.int .i64 t])),some (.row 1 (L++[.sl 4 0 0])),some (.row 1 R0),some (.row 1 []),some (.row 1 R2),some (.row 1 R3),some (.hid vs [.ptr 0 0 0,.agg [.int .i64 1,.int .i64 t,.lst P]]),some (.row 3 [x8]),some (.row 3 [.agg [.lst [.int .i64 (1:Nat)],.lst [.int .i64 (1:Nat)],.bool false]]),some (.row 1 y10),some (.row 1 y11),none,none]⟩) ?_ (A5 hE ?_))))))
  ·conv=>whnf
   simp only [AA _ nT,AA _ n0,AA _ n1,AA _ n2,AA _ n3,AA _ n8,AA _ ny10,AA _ ny11]
   rw [show AF 4 (L++[V.nils])=L++[V.nils] from hkn]
   rfl
  ·conv=>whnf
   rw [hs]
   rfl
  ·show (⟨_,Az [4] (u.map fun p=>(p.1,p.2.kill 4)),_⟩:ES)=_
   have:AU (u.map fun p=>(p.1,p.2.kill 4)) 4= .ptr 9 0 0:=by rw [CH,hu];rfl
   simp only [Az,List.map_cons,List.map_nil,this]
  ·conv=>whnf
   refine ⟨rfl,rfl,rfl,?_,rfl,hfin⟩
   have wl:CP 7 (L++[V.sl 4 0 0])=true:=by rw [DO,wL];rfl
   show Cg 7 _=true
   simp only [Cg,Ob.low,w,wl,w0,w1,w2,w3,Bool.true_and,Bool.and_true]
   rfl
 ·refine Ap (BN 5 (A0 [some (.row 5 [.agg [.sl 1 0 (2+1),.sl 2 0 (2+1),.nils,.nils,.bool false]]),some (.row 1 (T0++[.int .i64 t])),some (.row 1 (L++[.nils])),some (.row 1 R0),some (.row 1 R1),none,some (.row 1 R3),some (.hid vs [.ptr 0 0 0,.agg [.int .i64 1,.int .i64 t,.lst P]]),some (.row 3 [x8]),some (.row 3 [.agg [.lst [.int .i64 (2:Nat)],.lst [.int .i64 (2:Nat)],.bool false]]),some (.row 1 y10),some (.row 1 y11),none,none] ?_ (Fm 2 2 1 rfl hg (A0 [some (.row 5 [.agg [.sl 1 0 (2+1),.sl 2 0 (2+1),.nils,.nils,.bool false]]),some (.row 1 (T0++[.int .i64 t])),some (.row 1 (L++[.sl 5 0 0])),some (.row 1 R0),some (.row 1 R1),some (.row 1 []),some (.row 1 R3),some (.hid vs [.ptr 0 0 0,.agg [.int .i64 1,.int .i64 t,.lst P]]),some (.row 3 [x8]),some (.row 3 [.agg [.lst [.int .i64 (2:Nat)],.lst [.int .i64 (2:Nat)],.bool false]]),some (.row 1 y10),some (.row 1 y11),none,none] ?_ (HO [4] (σ':=⟨Tryz.f52.ntmps,[(4,.ptr 9 0 0)],[some (.row 5 [.agg [.sl 1 0 (2+1),.sl 2 0 (2+1),.nils,.nils,.bool false]]),some (.row 1 (T0++[.int .i64 t])),some (.row 1 (L++[.sl 5 0 0])),some (.row 1 R0),some (.row 1 R1),some (.row 1 []),some (.row 1 R3),some (.hid vs [.ptr 0 0 0,.agg [.int .i64 1,.int .i64 t,.lst P]]),some (.row 3 [x8]),some (.row 3 [.agg [.lst [.int .i64 (2:Nat)],.lst [.int .i64 (2:Nat)],.bool false]]),some (.row 1 y10),some (.row 1 y11),none,none]⟩) ?_ (A5 hE ?_))))))
  ·conv=>whnf
   simp only [AA _ nT,AA _ n0,AA _ n1,AA _ n2,AA _ n3,AA _ n8,AA _ ny10,AA _ ny11]
   rw [show AF 5 (L++[V.nils])=L++[V.nils] from hkn]
   rfl
  ·conv=>whnf
   rw [hs]
   rfl
  ·show (⟨_,Az [4] (u.map fun p=>(p.1,p.2.kill 5)),_⟩:ES)=_
   have:AU (u.map fun p=>(p.1,p.2.kill 5)) 4= .ptr 9 0 0:=by rw [CH,hu];rfl
   simp only [Az,List.map_cons,List.map_nil,this]
  ·conv=>whnf
   refine ⟨rfl,rfl,rfl,?_,rfl,hfin⟩
   have wl:CP 7 (L++[V.sl 5 0 0])=true:=by rw [DO,wL];rfl
   show Cg 7 _=true
   simp only [Cg,Ob.low,w,wl,w0,w1,w2,w3,Bool.true_and,Bool.and_true]
   rfl
 ·refine Ap (BN 6 (A0 [some (.row 5 [.agg [.sl 1 0 (3+1),.sl 2 0 (3+1),.nils,.nils,.bool false]]),some (.row 1 (T0++[.int .i64 t])),some (.row 1 (L++[.nils])),some (.row 1 R0),some (.row 1 R1),some (.row 1 R2),none,some (.hid vs [.ptr 0 0 0,.agg [.int .i64 1,.int .i64 t,.lst P]]),some (.row 3 [x8]),some (.row 3 [.agg [.lst [.int .i64 (3:Nat)],.lst [.int .i64 (3:Nat)],.bool false]]),some (.row 1 y10),some (.row 1 y11),none,none] ?_ (Fm 2 3 1 rfl hg (A0 [some (.row 5 [.agg [.sl 1 0 (3+1),.sl 2 0 (3+1),.nils,.nils,.bool false]]),some (.row 1 (T0++[.int .i64 t])),some (.row 1 (L++[.sl 6 0 0])),some (.row 1 R0),some (.row 1 R1),some (.row 1 R2),some (.row 1 []),some (.hid vs [.ptr 0 0 0,.agg [.int .i64 1,.int .i64 t,.lst P]]),some (.row 3 [x8]),some (.row 3 [.agg [.lst [.int .i64 (3:Nat)],.lst [.int .i64 (3:Nat)],.bool false]]),some (.row 1 y10),some (.row 1 y11),none,none] ?_ (HO [4] (σ':=⟨Tryz.f52.ntmps,[(4,.ptr 9 0 0)],[some (.row 5 [.agg [.sl 1 0 (3+1),.sl 2 0 (3+1),.nils,.nils,.bool false]]),some (.row 1 (T0++[.int .i64 t])),some (.row 1 (L++[.sl 6 0 0])),some (.row 1 R0),some (.row 1 R1),some (.row 1 R2),some (.row 1 []),some (.hid vs [.ptr 0 0 0,.agg [.int .i64 1,.int .i64 t,.lst P]]),some (.row 3 [x8]),some (.row 3 [.agg [.lst [.int .i64 (3:Nat)],.lst [.int .i64 (3:Nat)],.bool false]]),some (.row 1 y10),some (.row 1 y11),none,none]⟩) ?_ (A5 hE ?_))))))
  ·conv=>whnf
   simp only [AA _ nT,AA _ n0,AA _ n1,AA _ n2,AA _ n3,AA _ n8,AA _ ny10,AA _ ny11]
   rw [show AF 6 (L++[V.nils])=L++[V.nils] from hkn]
   rfl
  ·conv=>whnf
   rw [hs]
   rfl
  ·show (⟨_,Az [4] (u.map fun p=>(p.1,p.2.kill 6)),_⟩:ES)=_
   have:AU (u.map fun p=>(p.1,p.2.kill 6)) 4= .ptr 9 0 0:=by rw [CH,hu];rfl
   simp only [Az,List.map_cons,List.map_nil,this]
  ·conv=>whnf
   refine ⟨rfl,rfl,rfl,?_,rfl,hfin⟩
   have wl:CP 7 (L++[V.sl 6 0 0])=true:=by rw [DO,wL];rfl
   show Cg 7 _=true
   simp only [Cg,Ob.low,w,wl,w0,w1,w2,w3,Bool.true_and,Bool.and_true]
   rfl
theorem Zz {C:Ctx} {K:ES→Prop} {vs:List Value} (P:List V) (t:Int) (n:Nat) (T0 L R0 R1 R2 R3 y10 y12:List V) (x8:V) (hTn:BT T0) (hfL:∀id els,8≤id→Ai id els L=L)
 (n0:BT R0) (n1:BT R1) (n2:BT R2) (n3:BT R3) (ny10:BT y10) (ny12:BT y12) (n8:BT [x8]) {u:List (Nat×V)}
 (hk:UpE C K ⟨Tryz.f52.ntmps,Fw 13 [.int .i64 n] (Fw 11 [.int .i64 n] u),[some (.row 5 [.agg [.sl 1 0 (n+1),.sl 2 0 (n+1),.nils,.nils,.bool false]]),some (.row 1 (T0++[.int .i64 t])),some (.row 1 (L++[.nils])),some (.row 1 R0),some (.row 1 R1),some (.row 1 R2),some (.row 1 R3),some (.hid vs [.ptr 0 0 0,.agg [.int .i64 1,.int .i64 t,.lst P]]),some (.row 3 [x8]),some (.row 3 [.agg [.lst [.int .i64 n],.lst [.int .i64 n],.bool false]]),some (.row 1 y10),none,some (.row 1 y12),none]⟩):
 UpE C K ⟨Tryz.f52.ntmps,u,[some (.row 5 [.agg [.sl 1 0 (n+1),.sl 2 0 (n+1),.nils,.nils,.bool false]]),some (.row 1 (T0++[.int .i64 t])),some (.row 1 (L++[.nils])),some (.row 1 R0),some (.row 1 R1),some (.row 1 R2),some (.row 1 R3),some (.hid vs [.ptr 0 0 0,.agg [.int .i64 1,.int .i64 t,.lst P]]),some (.row 3 [x8]),some (.row 3 [.agg [.sl 11 0 1,.sl 13 0 1,.bool false]]),some (.row 1 y10),some (.row 1 [.int .i64 n]),some (.row 1 y12),some (.row 1 [.int .i64 n])]⟩:=by
 have nT:BT (T0++[.int .i64 t]):=(GS _ _).2 ⟨hTn,trivial,trivial⟩
 refine AK 11 rfl ⟨trivial,trivial⟩ (AK 13 rfl ⟨trivial,trivial⟩ (A0 _ ?_ hk))
 conv=>whnf
 simp only [Rp,hfL _ _ (show 8≤11 by decide),hfL _ _ (show 8≤13 by decide),AX _ _ hTn,AX _ _ n0,AX _ _ n1,AX _ _ n2,AX _ _ n3,AX _ _ n8,AX _ _ ny10,AX _ _ ny12]
 rfl
theorem QE {C:Ctx} {vs:List Value} (hE:EOk Tryz.tt C) (P:List V) (t:Int) (o0 o1 o2 o3 o4 o5 o6:List V) (S':Ps) (n:Nat) (h4:n≤3) (T0 L R0 R1 R2 R3 y10 y12:List V) (x8:V) (hTn:BT T0) (hLl:L.length=n) (hkL:AF (3+n) L=L)
 (n0:BT R0) (n1:BT R1) (n2:BT R2) (n3:BT R3) (ny10:BT y10) (ny12:BT y12) (n8:BT [x8]) (w:CP 7 (T0++[.int .i64 t])=true) (wL:CP 7 L=true) (w0:CP 7 R0=true) (w1:CP 7 R1=true) (w2:CP 7 R2=true) (w3:CP 7 R3=true)
 (hfin:[.row 5 [.agg [.sl 1 0 (n+1),.sl 2 0 (n+1),.nils,.nils,.bool false]],.row 1 (T0++[.int .i64 t]),.row 1 (L++[.sl (3+n) 0 0]),.row 1 (if n=0 then [] else R0),.row 1 (if n=1 then [] else R1),.row 1 (if n=2 then [] else R2),.row 1 (if n=3 then [] else R3)]=Bt S')
 {u:List (Nat×V)} (hu:AU u 4= .ptr 9 0 0):
 HRetN Tryz.tt C Tryz.f52 [.ptr 0 0 0,.agg [.int .i64 1,.int .i64 t,.lst P]] [.row 5 o0,.row 1 o1,.row 1 o2,.row 1 o3,.row 1 o4,.row 1 o5,.row 1 o6] vs [0] (fun r o=>r=R8 ⟨[(n:Int)],[(n:Int)],false⟩∧o=Bt S') ⟨Tryz.f52.ntmps,u,[some (.row 5 [.agg [.sl 1 0 (n+1),.sl 2 0 (n+1),.nils,.nils,.bool false]]),some (.row 1 (T0++[.int .i64 t])),some (.row 1 (L++[.nils])),some (.row 1 R0),some (.row 1 R1),some (.row 1 R2),some (.row 1 R3),some (.hid vs [.ptr 0 0 0,.agg [.int .i64 1,.int .i64 t,.lst P]]),some (.row 3 [x8]),some (.row 3 [.agg [.lst [.int .i64 n],.lst [.int .i64 n],.bool false]]),some (.row 1 y10),none,some (.row 1 y12),none]⟩:=by
 have nT:BT (T0++[.int .i64 t]):=(GS _ _).2 ⟨hTn,trivial,trivial⟩
 have hg:(L++[V.nils])[n]?=some V.nils:=by rw [List.getElem?_append_right (by omega),hLl,Nat.sub_self];rfl
 have hs:∀x:V,(L++[V.nils]).set n x=L++[x]:=fun x=>by rw [List.set_append_right _ _ (by omega),hLl,Nat.sub_self];rfl
 have hkn:AF (3+n) (L++[V.nils])=L++[V.nils]:=by rw [BH,hkL];rfl
 rcases (by omega:n=0∨n=1∨n=2∨n=3) with rfl|rfl|rfl|rfl
 ·refine Ap (BN 3 (A0 [some (.row 5 [.agg [.sl 1 0 (0+1),.sl 2 0 (0+1),.nils,.nils,.bool false]]),some (.row 1 (T0++[.int .i64 t])),some (.row 1 (L++[.nils])),none,some (.row 1 R1),some (.row 1 R2),some (.row 1 R3),some (.hid vs [.ptr 0 0 0,.agg [.int .i64 1,.int .i64 t,.lst P]]),some (.row 3 [x8]),some (.row 3 [.agg [.lst [.int .i64 (0:Nat)],.lst [.int .i64 (0:Nat)],.bool false]]),some (.row 1 y10),none,some (.row 1 y12),none] ?_ (Fm 2 0 1 rfl hg (A0 [some (.row 5 [.agg [.sl 1 0 (0+1),.sl 2 0 (0+1),.nils,.nils,.bool false]]),some (.row 1 (T0++[.int .i64 t])),some (.row 1 (L++[.sl 3 0 0])),some (.row 1 []),some (.row 1 R1),some (.row 1 R2),some (.row 1 R3),some (.hid vs [.ptr 0 0 0,.agg [.int .i64 1,.int .i64 t,.lst P]]),some (.row 3 [x8]),some (.row 3 [.agg [.lst [.int .i64 (0:Nat)],.lst [.int .i64 (0:Nat)],.bool false]]),some (.row 1 y10),none,some (.row 1 y12),none] ?_ (HO [4] (σ':=⟨Tryz.f52.ntmps,[(4,.ptr 9 0 0)],[some (.row 5 [.agg [.sl 1 0 (0+1),.sl 2 0 (0+1),.nils,.nils,.bool false]]),some (.row 1 (T0++[.int .i64 t])),some (.row 1 (L++[.sl 3 0 0])),some (.row 1 []),some (.row 1 R1),some (.row 1 R2),some (.row 1 R3),some (.hid vs [.ptr 0 0 0,.agg [.int .i64 1,.int .i64 t,.lst P]]),some (.row 3 [x8]),some (.row 3 [.agg [.lst [.int .i64 (0:Nat)],.lst [.int .i64 (0:Nat)],.bool false]]),some (.row 1 y10),none,some (.row 1 y12),none]⟩) ?_ (A5 hE ?_))))))
  ·conv=>whnf
   simp only [AA _ nT,AA _ n0,AA _ n1,AA _ n2,AA _ n3,AA _ n8,AA _ ny10,AA _ ny12]
   rw [show AF 3 (L++[V.nils])=L++[V.nils] from hkn]
   rfl
  ·conv=>whnf
   rw [hs]
   rfl
  ·show (⟨_,Az [4] (u.map fun p=>(p.1,p.2.kill 3)),_⟩:ES)=_
   have:AU (u.map fun p=>(p.1,p.2.kill 3)) 4= .ptr 9 0 0:=by rw [CH,hu];rfl
   simp only [Az,List.map_cons,List.map_nil,this]
  ·conv=>whnf
   refine ⟨rfl,rfl,rfl,?_,rfl,hfin⟩
   have wl:CP 7 (L++[V.sl 3 0 0])=true:=by rw [DO,wL];rfl
   show Cg 7 _=true
   simp only [Cg,Ob.low,w,wl,w0,w1,w2,w3,Bool.true_and,Bool.and_true]
   rfl
 ·refine Ap (BN 4 (A0 [some (.row 5 [.agg [.sl 1 0 (1+1),.sl 2 0 (1+1),.nils,.nils,.bool false]]),some (.row 1 (T0++[.int .i64 t])),some (.row 1 (L++[.nils])),some (.row 1 R0),none,some (.row 1 R2),some (.row 1 R3),some (.hid vs [.ptr 0 0 0,.agg [.int .i64 1,.int .i64 t,.lst P]]),some (.row 3 [x8]),some (.row 3 [.agg [.lst [.int .i64 (1:Nat)],.lst [.int .i64 (1:Nat)],.bool false]]),some (.row 1 y10),none,some (.row 1 y12),none] ?_ (Fm 2 1 1 rfl hg (A0 [some (.row 5 [.agg [.sl 1 0 (1+1),.sl 2 0 (1+1),.nils,.nils,.bool false]]),some (.row 1 (T0++[.int .i64 t])),some (.row 1 (L++[.sl 4 0 0])),some (.row 1 R0),some (.row 1 []),some (.row 1 R2),some (.row 1 R3),some (.hid vs [.ptr 0 0 0,.agg [.int .i64 1,.int .i64 t,.lst P]]),some (.row 3 [x8]),some (.row 3 [.agg [.lst [.int .i64 (1:Nat)],.lst [.int .i64 (1:Nat)],.bool false]]),some (.row 1 y10),none,some (.row 1 y12),none] ?_ (HO [4] (σ':=⟨Tryz.f52.ntmps,[(4,.ptr 9 0 0)],[some (.row 5 [.agg [.sl 1 0 (1+1),.sl 2 0 (1+1),.nils,.nils,.bool false]]),some (.row 1 (T0++[.int .i64 t])),some (.row 1 (L++[.sl 4 0 0])),some (.row 1 R0),some (.row 1 []),some (.row 1 R2),some (.row 1 R3),some (.hid vs [.ptr 0 0 0,.agg [.int .i64 1,.int .i64 t,.lst P]]),some (.row 3 [x8]),some (.row 3 [.agg [.lst [.int .i64 (1:Nat)],.lst [.int .i64 (1:Nat)],.bool false]]),some (.row 1 y10),none,some (.row 1 y12),none]⟩) ?_ (A5 hE ?_))))))
  ·conv=>whnf
   simp only [AA _ nT,AA _ n0,AA _ n1,AA _ n2,AA _ n3,AA _ n8,AA _ ny10,AA _ ny12]
   rw [show AF 4 (L++[V.nils])=L++[V.nils] from hkn]
   rfl
  ·conv=>whnf
   rw [hs]
   rfl
  ·show (⟨_,Az [4] (u.map fun p=>(p.1,p.2.kill 4)),_⟩:ES)=_
   have:AU (u.map fun p=>(p.1,p.2.kill 4)) 4= .ptr 9 0 0:=by rw [CH,hu];rfl
   simp only [Az,List.map_cons,List.map_nil,this]
  ·conv=>whnf
   refine ⟨rfl,rfl,rfl,?_,rfl,hfin⟩
   have wl:CP 7 (L++[V.sl 4 0 0])=true:=by rw [DO,wL];rfl
   show Cg 7 _=true
   simp only [Cg,Ob.low,w,wl,w0,w1,w2,w3,Bool.true_and,Bool.and_true]
   rfl
 ·refine Ap (BN 5 (A0 [some (.row 5 [.agg [.sl 1 0 (2+1),.sl 2 0 (2+1),.nils,.nils,.bool false]]),some (.row 1 (T0++[.int .i64 t])),some (.row 1 (L++[.nils])),some (.row 1 R0),some (.row 1 R1),none,some (.row 1 R3),some (.hid vs [.ptr 0 0 0,.agg [.int .i64 1,.int .i64 t,.lst P]]),some (.row 3 [x8]),some (.row 3 [.agg [.lst [.int .i64 (2:Nat)],.lst [.int .i64 (2:Nat)],.bool false]]),some (.row 1 y10),none,some (.row 1 y12),none] ?_ (Fm 2 2 1 rfl hg (A0 [some (.row 5 [.agg [.sl 1 0 (2+1),.sl 2 0 (2+1),.nils,.nils,.bool false]]),some (.row 1 (T0++[.int .i64 t])),some (.row 1 (L++[.sl 5 0 0])),some (.row 1 R0),some (.row 1 R1),some (.row 1 []),some (.row 1 R3),some (.hid vs [.ptr 0 0 0,.agg [.int .i64 1,.int .i64 t,.lst P]]),some (.row 3 [x8]),some (.row 3 [.agg [.lst [.int .i64 (2:Nat)],.lst [.int .i64 (2:Nat)],.bool false]]),some (.row 1 y10),none,some (.row 1 y12),none] ?_ (HO [4] (σ':=⟨Tryz.f52.ntmps,[(4,.ptr 9 0 0)],[some (.row 5 [.agg [.sl 1 0 (2+1),.sl 2 0 (2+1),.nils,.nils,.bool false]]),some (.row 1 (T0++[.int .i64 t])),some (.row 1 (L++[.sl 5 0 0])),some (.row 1 R0),some (.row 1 R1),some (.row 1 []),some (.row 1 R3),some (.hid vs [.ptr 0 0 0,.agg [.int .i64 1,.int .i64 t,.lst P]]),some (.row 3 [x8]),some (.row 3 [.agg [.lst [.int .i64 (2:Nat)],.lst [.int .i64 (2:Nat)],.bool false]]),some (.row 1 y10),none,some (.row 1 y12),none]⟩) ?_ (A5 hE ?_))))))
  ·conv=>whnf
   simp only [AA _ nT,AA _ n0,AA _ n1,AA _ n2,AA _ n3,AA _ n8,AA _ ny10,AA _ ny12]
   rw [show AF 5 (L++[V.nils])=L++[V.nils] from hkn]
   rfl
  ·conv=>whnf
   rw [hs]
   rfl
  ·show (⟨_,Az [4] (u.map fun p=>(p.1,p.2.kill 5)),_⟩:ES)=_
   have:AU (u.map fun p=>(p.1,p.2.kill 5)) 4= .ptr 9 0 0:=by rw [CH,hu];rfl
   simp only [Az,List.map_cons,List.map_nil,this]
  ·conv=>whnf
   refine ⟨rfl,rfl,rfl,?_,rfl,hfin⟩
   have wl:CP 7 (L++[V.sl 5 0 0])=true:=by rw [DO,wL];rfl
   show Cg 7 _=true
   simp only [Cg,Ob.low,w,wl,w0,w1,w2,w3,Bool.true_and,Bool.and_true]
   rfl
 ·refine Ap (BN 6 (A0 [some (.row 5 [.agg [.sl 1 0 (3+1),.sl 2 0 (3+1),.nils,.nils,.bool false]]),some (.row 1 (T0++[.int .i64 t])),some (.row 1 (L++[.nils])),some (.row 1 R0),some (.row 1 R1),some (.row 1 R2),none,some (.hid vs [.ptr 0 0 0,.agg [.int .i64 1,.int .i64 t,.lst P]]),some (.row 3 [x8]),some (.row 3 [.agg [.lst [.int .i64 (3:Nat)],.lst [.int .i64 (3:Nat)],.bool false]]),some (.row 1 y10),none,some (.row 1 y12),none] ?_ (Fm 2 3 1 rfl hg (A0 [some (.row 5 [.agg [.sl 1 0 (3+1),.sl 2 0 (3+1),.nils,.nils,.bool false]]),some (.row 1 (T0++[.int .i64 t])),some (.row 1 (L++[.sl 6 0 0])),some (.row 1 R0),some (.row 1 R1),some (.row 1 R2),some (.row 1 []),some (.hid vs [.ptr 0 0 0,.agg [.int .i64 1,.int .i64 t,.lst P]]),some (.row 3 [x8]),some (.row 3 [.agg [.lst [.int .i64 (3:Nat)],.lst [.int .i64 (3:Nat)],.bool false]]),some (.row 1 y10),none,some (.row 1 y12),none] ?_ (HO [4] (σ':=⟨Tryz.f52.ntmps,[(4,.ptr 9 0 0)],[some (.row 5 [.agg [.sl 1 0 (3+1),.sl 2 0 (3+1),.nils,.nils,.bool false]]),some (.row 1 (T0++[.int .i64 t])),some (.row 1 (L++[.sl 6 0 0])),some (.row 1 R0),some (.row 1 R1),some (.row 1 R2),some (.row 1 []),some (.hid vs [.ptr 0 0 0,.agg [.int .i64 1,.int .i64 t,.lst P]]),some (.row 3 [x8]),some (.row 3 [.agg [.lst [.int .i64 (3:Nat)],.lst [.int .i64 (3:Nat)],.bool false]]),some (.row 1 y10),none,some (.row 1 y12),none]⟩) ?_ (A5 hE ?_))))))
  ·conv=>whnf
   simp only [AA _ nT,AA _ n0,AA _ n1,AA _ n2,AA _ n3,AA _ n8,AA _ ny10,AA _ ny12]
   rw [show AF 6 (L++[V.nils])=L++[V.nils] from hkn]
   rfl
  ·conv=>whnf
   rw [hs]
   rfl
  ·show (⟨_,Az [4] (u.map fun p=>(p.1,p.2.kill 6)),_⟩:ES)=_
   have:AU (u.map fun p=>(p.1,p.2.kill 6)) 4= .ptr 9 0 0:=by rw [CH,hu];rfl
   simp only [Az,List.map_cons,List.map_nil,this]
  ·conv=>whnf
   refine ⟨rfl,rfl,rfl,?_,rfl,hfin⟩
   have wl:CP 7 (L++[V.sl 6 0 0])=true:=by rw [DO,wL];rfl
   show Cg 7 _=true
   simp only [Cg,Ob.low,w,wl,w0,w1,w2,w3,Bool.true_and,Bool.and_true]
   rfl
theorem Jh {F:List (List Int)} (hF:F.length≤4) {id:Nat} (h:8≤id) (els:List V):Ai id els (CU F)=CU F:=by
 unfold CU
 have:∀l:List Nat,(∀j∈l,j < 4)→Ai id els (l.map fun j=>V.sl (3+j) 0 (AE F j).length)=l.map fun j=>V.sl (3+j) 0 (AE F j).length:=by
  intro l
  induction l with
  | nil=>intro _;rfl
  | cons j l ih=>
    intro hj
    have h1:=hj j (by simp)
    simp only [List.map_cons,Ai]
    rw [ih fun k hk=>hj k (by simp [hk]),FL els (by omega)]
 exact this _ fun j hj=>by have:=List.mem_range.1 hj;omega
theorem O2 (F:List (List Int)) {k:Nat} (h:k < 3):AF k (CU F)=CU F:=by
 unfold CU
 rw [F3]
 refine List.map_congr_left fun j _=>?_
 simp only [V.kill]
 rw [if_neg (by omega)]
theorem Vm {F:List (List Int)} (hF:F.length≤4):CP 7 (CU F)=true:=by
 unfold CU
 have:∀l:List Nat,(∀j∈l,j < 4)→CP 7 (l.map fun j=>V.sl (3+j) 0 (AE F j).length)=true:=by
  intro l
  induction l with
  | nil=>intro _;rfl
  | cons j l ih=>
    intro hj
    have h1:=hj j (by simp)
    simp only [List.map_cons,CP,V.low]
    rw [ih fun k hk=>hj k (by simp [hk]),Bool.and_true]
    exact Nat.ble_eq_true_of_le (by omega)
 exact this _ fun j hj=>by have:=List.mem_range.1 hj;omega
theorem FS:∀l:List Int,CP 7 (l.map (V.int .i64))=true
 | []=>rfl
 | x::l=>by simp only [List.map_cons,CP,V.low,FS l,Bool.and_true]
theorem KU (F:List (List Int)) (j:Nat):AE (F++[[]]) j=if F.length=j then [] else AE F j:=by
 unfold AE
 rw [List.getD_eq_getElem?_getD,List.getD_eq_getElem?_getD]
 split
 ·rename_i e
  subst e
  simp
 ·rename_i e
  by_cases h:j < F.length
  ·rw [List.getElem?_append_left h]
  ·rw [List.getElem?_eq_none (by simp;omega),List.getElem?_eq_none (by omega)]
theorem Z0 (F:List (List Int)):CU (F++[[]])=CU F++[.sl (3+F.length) 0 0]:=by
 unfold CU
 rw [List.length_append,List.length_singleton,List.range_succ,List.map_append]
 congr 1
 ·refine List.map_congr_left fun j hj=>?_
  have:=List.mem_range.1 hj
  rw [KU,if_neg (by omega)]
 ·simp [KU]
set_option maxHeartbeats 16000000 in
theorem XB (t:Int) (ps:List Ex) (S:Ps) (hS:OkS S) (h4:S.T.length+1≤4):
 HFn Tryz.prog 52 [.ptr 0 0 0,.agg [.int .i64 1,.int .i64 t,.lst (ps.map Ah)]] (Bt S) [0] (fun r o=>r=R8 ⟨[(S.T.length:Int)],[(S.T.length:Int)],false⟩∧o=Bt ⟨S.T++[t],S.F++[[]]⟩):=by
 have hl:=hS.len
 have hTm:(S.T.map (V.int .i64)).length=S.T.length:=by simp
 have hLl:=QP S.F
 have hkL:=Cm (F:=S.F) (n:=3+S.F.length) (by omega)
 have hkL':∀id,8≤id→AF id (CU S.F)=CU S.F:=fun id h=>Cm (by omega)
 have hk1:=O2 S.F (k:=1) (by decide)
 have hk2:=O2 S.F (k:=2) (by decide)
 have hfL:∀id els,8≤id→Ai id els (CU S.F)=CU S.F:=fun id els h=>Jh (by omega) h els
 have hTn:=AJ S.T
 have n0:=AJ (AE S.F 0)
 have n1:=AJ (AE S.F 1)
 have n2:=AJ (AE S.F 2)
 have n3:=AJ (AE S.F 3)
 have w:CP 7 (S.T.map (V.int .i64)++[.int .i64 t])=true:=by rw [DO,FS];rfl
 have wL:=Vm (F:=S.F) (by omega)
 have w0:=FS (AE S.F 0)
 have w1:=FS (AE S.F 1)
 have w2:=FS (AE S.F 2)
 have w3:=FS (AE S.F 3)
 have hTt:List.take S.T.length (List.drop 0 (S.T.map (V.int .i64)))=S.T.map (V.int .i64):=by rw [List.drop_zero,List.take_of_length_le (by simp)]
 have hLt:List.take S.F.length (List.drop 0 (CU S.F))=CU S.F:=by rw [List.drop_zero,List.take_of_length_le (by omega)]
 have hfin:[Ob.row 5 [.agg [.sl 1 0 (S.T.length+1),.sl 2 0 (S.T.length+1),.nils,.nils,.bool false]],.row 1 (S.T.map (V.int .i64)++[.int .i64 t]),.row 1 (CU S.F++[.sl (3+S.T.length) 0 0]),.row 1 (if S.T.length=0 then [] else (AE S.F 0).map (V.int .i64)),.row 1 (if S.T.length=1 then [] else (AE S.F 1).map (V.int .i64)),.row 1 (if S.T.length=2 then [] else (AE S.F 2).map (V.int .i64)),.row 1 (if S.T.length=3 then [] else (AE S.F 3).map (V.int .i64))]=Bt ⟨S.T++[t],S.F++[[]]⟩:=by
  unfold Bt Sn fo
  simp only [Z0,KU,hl,List.length_append,List.length_singleton,List.map_append,List.map_cons,List.map_nil]
  congr<;>(split<;>rfl)
 refine IJ Tryz.func52 fun C vs hC hE=>?_
 have hob:Bt S=[.row 5 [.agg [.sl 1 0 S.T.length,.sl 2 0 S.F.length,.nils,.nils,.bool false]],.row 1 (S.T.map (V.int .i64)),.row 1 (CU S.F),.row 1 ((AE S.F 0).map (V.int .i64)),.row 1 ((AE S.F 1).map (V.int .i64)),.row 1 ((AE S.F 2).map (V.int .i64)),.row 1 ((AE S.F 3).map (V.int .i64))]:=rfl
 rw [hob]
 clear hob
 generalize (⟨S.T++[t],S.F++[[]]⟩:Ps)=S' at*
 rw [hl] at hLl hkL hLt ⊢
 generalize CU S.F=L at*
 generalize S.T.map (V.int .i64)=T0 at*
 generalize (AE S.F 0).map (V.int .i64)=R0 at*
 generalize (AE S.F 1).map (V.int .i64)=R1 at*
 generalize (AE S.F 2).map (V.int .i64)=R2 at*
 generalize (AE S.F 3).map (V.int .i64)=R3 at*
 generalize S.T.length=n at*
 conv=>whnf
 repeat' (first|refine A2 ?_|intro hlen)<;>conv=>whnf
 refine EA hE ⟨2,[(0,none),(1,none),(2,none),(3,none),(4,none),(5,none),(6,none),(7,none),(10,none),(11,none),(12,none),(13,none),(8,some 0),(14,some 1)],some 9,[10,11,12,13,0,1,14],[[],[0],[1],[0,1],[13],[13,0],[13,1],[13,0,1],[12,13],[12,13,0],[12,13,1],[12,13,0,1],[11,12,13],[11,12,13,0],[11,12,13,1],[11,12,13,0,1],[10,11,12,13],[10,11,12,13,0],[10,11,12,13,1],[10,11,12,13,0,1],[14],[0,14],[1,14],[0,1,14],[13,14],[13,0,14],[13,1,14],[13,0,1,14],[12,13,14],[12,13,0,14],[12,13,1,14],[12,13,0,1,14],[11,12,13,14],[11,12,13,0,14],[11,12,13,1,14],[11,12,13,0,1,14],[10,11,12,13,14],[10,11,12,13,0,14],[10,11,12,13,1,14],[10,11,12,13,0,1,14]],[]⟩ [⟨1,[],some 15,[0,1],[[],[0],[1],[0,1]],[(14,0)]⟩,⟨0,[(16,none),(17,none)],some 18,[1],[[],[1]],[]⟩,⟨0,[(19,none),(20,none)],some 21,[],[[]],[]⟩] [[],[0],[1],[0,1],[14],[0,14],[1,14],[0,1,14]] [10,11,12,13] 9 ?_ ?_
 ·decide +kernel
 conv=>whnf
 repeat' (first|(first|refine JM ?_ ?_|refine EN (Nat.le_refl 1) ?_)<;>conv=>whnf|refine EqL.mk rfl rfl|(first|(refine EN ⟨?_,?_,?_⟩ ?_;(first|omega|(simp only [AQ]<;>omega));(show _+1≤9223372036854775807;first|omega|(simp only [AQ]<;>omega));(show (_+1)*_≤140737488355328;first|omega|(simp only [AQ]<;>omega)))|refine By ?_)<;>conv=>whnf)
 all_goals first
 | (refine Ap (Bm [4] (A0 [some (.row 5 [.agg [.sl 1 0 (n+1),.sl 2 0 (n+1),.nils,.nils,.bool false]]),some (.row 1 (T0++[.int .i64 t])),some (.row 1 (L++[.nils])),some (.row 1 R0),some (.row 1 R1),some (.row 1 R2),some (.row 1 R3),some (.hid vs [.ptr 0 0 0,.agg [.int .i64 1,.int .i64 t,.lst (ps.map Ah)]]),some (.row 3 [.agg [.int .i64 1,.int .i64 t,.lst (ps.map Ah)]]),some (.row 3 [.agg [.sl 12 0 1,.sl 13 0 1,.bool false]]),some (.row 1 [.int .i64 t]),some (.row 1 [.nils]),some (.row 1 [.int .i64 (n:Int)]),some (.row 1 [.int .i64 (n:Int)])] ?_ (Zy _ t n T0 L R0 R1 R2 R3 [.int .i64 t] [.nils] (.agg [.int .i64 1,.int .i64 t,.lst (ps.map Ah)]) hTn hfL n0 n1 n2 n3 ⟨trivial,trivial⟩ ⟨trivial,trivial⟩ ⟨⟨trivial,trivial,trivial,trivial⟩,trivial⟩ (AH (QD hE _ t _ _ _ _ _ _ _ _ n (by omega) T0 L R0 R1 R2 R3 [.int .i64 t] [.nils] (.agg [.int .i64 1,.int .i64 t,.lst (ps.map Ah)]) hTn hLl hkL n0 n1 n2 n3 ⟨trivial,trivial⟩ ⟨trivial,trivial⟩ ⟨⟨trivial,trivial,trivial,trivial⟩,trivial⟩ w wL w0 w1 w2 w3 hfin (by rw [Bk,Bk];rfl))))))
    (conv=>whnf)
    simp only [BH,hk1,hk2,hkL',AA _ hTn,AA _ n0,AA _ n1,AA _ n2,AA _ n3,hTt,hLt]
    rfl)
 | (refine Ap (Bm [4] (A0 [some (.row 5 [.agg [.sl 1 0 (n+1),.sl 2 0 (n+1),.nils,.nils,.bool false]]),some (.row 1 (T0++[.int .i64 t])),some (.row 1 (L++[.nils])),some (.row 1 R0),some (.row 1 R1),some (.row 1 R2),some (.row 1 R3),some (.hid vs [.ptr 0 0 0,.agg [.int .i64 1,.int .i64 t,.lst (ps.map Ah)]]),some (.row 3 [.agg [.int .i64 1,.int .i64 t,.lst (ps.map Ah)]]),some (.row 3 [.agg [.sl 11 0 1,.sl 13 0 1,.bool false]]),some (.row 1 [.int .i64 t]),some (.row 1 [.int .i64 (n:Int)]),some (.row 1 [.nils]),some (.row 1 [.int .i64 (n:Int)])] ?_ (Zz _ t n T0 L R0 R1 R2 R3 [.int .i64 t] [.nils] (.agg [.int .i64 1,.int .i64 t,.lst (ps.map Ah)]) hTn hfL n0 n1 n2 n3 ⟨trivial,trivial⟩ ⟨trivial,trivial⟩ ⟨⟨trivial,trivial,trivial,trivial⟩,trivial⟩ (AH (QE hE _ t _ _ _ _ _ _ _ _ n (by omega) T0 L R0 R1 R2 R3 [.int .i64 t] [.nils] (.agg [.int .i64 1,.int .i64 t,.lst (ps.map Ah)]) hTn hLl hkL n0 n1 n2 n3 ⟨trivial,trivial⟩ ⟨trivial,trivial⟩ ⟨⟨trivial,trivial,trivial,trivial⟩,trivial⟩ w wL w0 w1 w2 w3 hfin (by rw [Bk,Bk];rfl))))))
    (conv=>whnf)
    simp only [BH,hk1,hk2,hkL',AA _ hTn,AA _ n0,AA _ n1,AA _ n2,AA _ n3,hTt,hLt]
    rfl)
end Go.Proofs.YtkaiffheakalmaaGreatDoor
