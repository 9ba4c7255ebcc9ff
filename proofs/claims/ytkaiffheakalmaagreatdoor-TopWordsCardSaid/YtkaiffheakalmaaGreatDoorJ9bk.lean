/- Joined. No conditions. -/
import Derived.Test.YtkaiffheakalmaaGreatDoorJ9bj
set_option linter.unusedSimpArgs false
set_option linter.unusedVariables false
set_option maxRecDepth 100000
namespace Go.Proofs.YtkaiffheakalmaaGreatDoor
open Go.RowKit
def jL (Z:List Int) (i n:Nat) (to:Int) (s:List Int×Bool):List Int×Bool:=
 if to < 0 then s else if s.1.getD to.toNat 0 < 0 then s else if Z.getD n 0=0 then s else
 if s.1.getD i 0 < 0∨Z.getD n 0+s.1.getD to.toNat 0 < s.1.getD i 0 then (s.1.set i (Z.getD n 0+s.1.getD to.toNat 0),true) else s
def Xl (Z:List Int) (i:Nat) (row:List Int):Nat→List Int×Bool→List Int×Bool
 | 0,s=>s
 | n+1,s=>jL Z i n (row.getD n (-1)) (Xl Z i row n s)
def Sa (Z:List Int) (N:List (List Int)):Nat→List Int→List Int×Bool
 | 0,out=>(out,false)
 | i+1,out=>Xl Z i (N.getD i []) 8 (Sa Z N i out)
def LN (Z:List Int) (N:List (List Int)):Nat→List Int→List Int×Bool
 | 0,out=>(out,true)
 | k+1,out=>Sa Z N N.length (LN Z N k out).1
def EC (F:List Bool) (i:Nat):List Int:=(List.range F.length).map fun j=>if j < i then (if F.getD j false then 0 else -1) else 0
theorem NT (F:List Bool) (i:Nat):(EC F i).length=F.length:=by simp [EC]
theorem f5 {F:List Bool} {i:Nat} (h:F[i]?=some true):EC F (i+1)=EC F i:=by
 unfold EC
 refine List.map_congr_left fun j hj=>?_
 by_cases e:j=i
 ·subst e
  rw [if_pos (Nat.lt_succ_self _),if_neg (Nat.lt_irrefl _),List.getD_eq_getElem?_getD,h]
  rfl
 ·by_cases h1:j < i
  ·rw [if_pos (by omega),if_pos h1]
  ·rw [if_neg (by omega),if_neg h1]
theorem f6 {F:List Bool} {i:Nat} (h:F[i]?=some false):EC F (i+1)=(EC F i).set i (-1):=by
 apply List.ext_getElem?
 intro j
 have hi:=(List.getElem?_eq_some_iff.1 h).1
 rw [List.getElem?_set]
 unfold EC
 by_cases hj:j < F.length
 ·rw [List.getElem?_map,List.getElem?_map,List.getElem?_range hj]
  by_cases e:i=j
  ·subst e
   rw [if_pos rfl,if_pos (by simpa using hi)]
   simp only [Option.map_some]
   rw [if_pos (Nat.lt_succ_self _),List.getD_eq_getElem?_getD,h]
   rfl
  ·rw [if_neg e]
   simp only [Option.map_some]
   by_cases h1:j < i
   ·rw [if_pos (by omega),if_pos h1]
   ·rw [if_neg (by omega),if_neg h1]
 ·rw [List.getElem?_eq_none (by simpa using Nat.le_of_not_lt hj),if_neg (by omega),List.getElem?_eq_none (by simpa using Nat.le_of_not_lt hj)]
theorem f7 (F:List Bool):EC F 0=List.replicate F.length 0:=by
 unfold EC
 apply List.ext_getElem?
 intro j
 rw [List.getElem?_map,List.getElem?_replicate]
 by_cases hj:j < F.length
 ·rw [List.getElem?_range hj,if_pos hj];rfl
 ·rw [List.getElem?_eq_none (by simpa using Nat.le_of_not_lt hj),if_neg hj];rfl
theorem db (Z:List Int) (i n:Nat) (to:Int) (s:List Int×Bool):(jL Z i n to s).1.length=s.1.length:=by
 unfold jL
 repeat' split
 all_goals simp
theorem Qa (Z:List Int) (i:Nat) (row:List Int):∀(n:Nat) (s:List Int×Bool),(Xl Z i row n s).1.length=s.1.length
 | 0,s=>rfl
 | n+1,s=>by rw [Xl,db,Qa Z i row n s]
theorem Qb (Z:List Int) (N:List (List Int)):∀(i:Nat) (out:List Int),(Sa Z N i out).1.length=out.length
 | 0,out=>rfl
 | i+1,out=>by rw [Sa,Qa,Qb Z N i out]
theorem Qc (Z:List Int) (N:List (List Int)) (out:List Int):∀k,(LN Z N k out).1.length=out.length
 | 0=>rfl
 | k+1=>by rw [LN,Qb,Qc Z N out k]
def Sb (ty au:List V) (m:Nat):V:=.agg [.lst ty,.lst au,.sl 1 0 m]
set_option maxHeartbeats 16000000 in
theorem f8 (ty au:List V) (Z:List Int) (N:List (List Int)) (F:List Bool) (R:Nat) (hZ:∀z∈Z,0≤z∧z≤1000000) (hN:∀r∈N,r.length=8∧(∀x∈r,-1≤x∧x < N.length)∧∀n,Z.length≤n→r.getD n (-1) < 0) (hF:F.length=N.length) (h40:N.length≤40)
 (hR:R≤100) (hend:(LN Z N R (EC F F.length)).2=false) (hgo:∀k,k < R→(LN Z N k (EC F F.length)).2=true):
 HFn Tryz.prog 69 [.ptr 0 0 0,.agg [.lst (N.map AL),.lst (F.map V.bool)]] [.row 3 [Sb ty au Z.length],.row 1 (Z.map (V.int .i64))] [0] (fun r o=>r=AL (LN Z N R (EC F F.length)).1∧o=[.row 3 [Sb ty au Z.length],.row 1 (Z.map (V.int .i64))]):=by
 have hNm:(N.map AL).length=N.length:=by simp
 have hFm:(F.map V.bool).length=F.length:=by simp
 have hZm:(Z.map (V.int .i64)).length=Z.length:=by simp
 refine IJ Tryz.func69 fun C vs hC hE=>?_
 unfold Sb
 conv=>whnf
 repeat' (first|refine AO ?_|intro hlen)<;>conv=>whnf
 refine Ab (fun i:Nat=>⟨99,[(0,.ptr 0 0 0),(3,.rp [.lst (N.map AL),.lst (F.map V.bool)]),(5,.sl 4 0 N.length),(19,.lst (F.map V.bool)),(20,.int .i64 (F.map V.bool).length),(21,.int .i64 i)],[some (.row 3 [.agg [.lst ty,.lst au,.sl 1 0 Z.length]]),some (.row 1 (Z.map (V.int .i64))),some (.hid vs [.ptr 0 0 0,.agg [.lst (N.map AL),.lst (F.map V.bool)]]),none,some (.row 1 ((EC F i).map (V.int .i64)))]⟩)
  (fun i=>i≤F.length) (fun i=>F.length - i) 0 hE ?_ (Nat.zero_le _) ?_
 ·refine AK 3 (z:=2) (els:=[.agg [.lst (N.map AL),.lst (F.map V.bool)]]) rfl ⟨⟨trivial,trivial,trivial⟩,trivial⟩ (AP [0,3,5,19,20,21] ?_)
  conv=>whnf
  have hrep:List.replicate N.length (V.int .i64 0)=(List.replicate N.length (0:Int)).map (V.int .i64):=by rw [List.map_replicate]
  rw [f7,hF]
  simp only [Int.toNat_natCast,hNm,hrep,AX _ _ (AJ _)]
  rfl
 intro i hi
 have hOl:=NT F i
 have hOm:((EC F i).map (V.int .i64)).length=(EC F i).length:=by simp
 by_cases hlt:i < F.length
 ·obtain ⟨b,hb⟩:∃b,F[i]?=some b:=⟨_,List.getElem?_eq_getElem hlt⟩
  have gb:(F.map V.bool)[i]?=some (.bool b):=by rw [List.getElem?_map,hb];rfl
  have gb':(F.map V.bool)[Int.toNat (i:Int)]?=some (.bool b):=by rw [Int.toNat_natCast];exact gb
  obtain ⟨y,hy⟩:∃y,(EC F i)[i]?=some y:=⟨_,List.getElem?_eq_getElem (by omega)⟩
  have gy:((EC F i).map (V.int .i64))[0+Int.toNat (i:Int)]?=some (.int .i64 y):=by rw [Nat.zero_add,Int.toNat_natCast,List.getElem?_map,hy];rfl
  cases b
  ·have hn:=f6 hb
   conv=>whnf
   repeat' (first|refine A2 ?_|refine AO ?_|refine AV ?_|refine Ad ?_)<;>conv=>whnf
   refine AD [0,3,5,19,20,21] (i+1) hlt (by omega) ?_
   conv=>whnf
   rw [hn,Nat.zero_add,Int.toNat_natCast,List.map_set]
   rfl
  ·have hn:=f5 hb
   conv=>whnf
   repeat' (first|refine A2 ?_|refine AO ?_|refine AV ?_|refine Ad ?_)<;>conv=>whnf
   refine AD [0,3,5,19,20,21] (i+1) hlt (by omega) ?_
   conv=>whnf
   rw [hn]
   rfl
 obtain rfl:i=F.length:=by omega
 have hol:=NT F F.length
 have hini:∀x∈EC F F.length,x≤0:=fun x hx=>by
  unfold EC at hx
  obtain ⟨j,_,rfl⟩:=List.mem_map.1 hx
  repeat' split
  all_goals omega
 generalize EC F F.length=out0 at*
 conv=>whnf
 repeat' refine A1 ?_<;>conv=>whnf
 refine Ab (fun k:Nat=>⟨99,[(0,.ptr 0 0 0),(3,.rp [.lst (N.map AL),.lst (F.map V.bool)]),(5,.sl 4 0 N.length),(8,.bool (LN Z N k out0).2)],[some (.row 3 [.agg [.lst ty,.lst au,.sl 1 0 Z.length]]),some (.row 1 (Z.map (V.int .i64))),some (.hid vs [.ptr 0 0 0,.agg [.lst (N.map AL),.lst (F.map V.bool)]]),none,some (.row 1 ((LN Z N k out0).1.map (V.int .i64)))]⟩)
  (fun k=>k≤R∧∀x∈(LN Z N k out0).1,x≤1000000*(320*(k:Int)+1)) (fun k=>R - k) 0 hE ?_ ⟨Nat.zero_le _,?_⟩ ?_
 ·refine AP [0,3,5,8] ?_
  conv=>whnf
  rfl
 ·intro x hx
  have:=hini x hx
  omega
 rintro k ⟨hk,hB⟩
 have hOl:=Qc Z N out0 k
 have hstep:LN Z N (k+1) out0=Sa Z N N.length (LN Z N k out0).1:=rfl
 by_cases hkR:k < R
 ·have hm:=hgo k hkR
  generalize LN Z N k out0=q at hB hOl hstep hm
  obtain ⟨out,more⟩:=q
  simp only at hm hB hOl hstep
  subst hm
  conv=>whnf
  repeat' intro hlen<;>conv=>whnf
  refine Ab (fun i:Nat=>⟨99,[(0,.ptr 0 0 0),(3,.rp [.lst (N.map AL),.lst (F.map V.bool)]),(5,.sl 4 0 N.length),(8,.bool (Sa Z N i out).2),(34,.lst (N.map AL)),(35,.int .i64 (N.map AL).length),(36,.int .i64 i)],[some (.row 3 [.agg [.lst ty,.lst au,.sl 1 0 Z.length]]),some (.row 1 (Z.map (V.int .i64))),some (.hid vs [.ptr 0 0 0,.agg [.lst (N.map AL),.lst (F.map V.bool)]]),none,some (.row 1 ((Sa Z N i out).1.map (V.int .i64)))]⟩)
   (fun i=>i≤N.length∧∀x∈(Sa Z N i out).1,x≤1000000*(320*(k:Int)+8*(i:Int)+1)) (fun i=>N.length - i) 0 hE ?_ ⟨Nat.zero_le _,fun x hx=>by have:=hB x hx;omega⟩ ?_
  ·refine AP [0,3,5,8,34,35,36] ?_
   conv=>whnf
   rfl
  rintro i ⟨hi,hBi⟩
  have hRl:=Qb Z N i out
  by_cases hlt:i < N.length
  ·obtain ⟨row,hrow⟩:∃row,N[i]?=some row:=⟨_,List.getElem?_eq_getElem hlt⟩
   obtain ⟨h8,hxs,hxn⟩:=hN row (List.mem_of_getElem? hrow)
   have gr:(N.map AL)[i]?=some (AL row):=by rw [List.getElem?_map,hrow];rfl
   have hrm:(row.map (V.int .i64)).length=row.length:=by simp
   have hnx:Sa Z N (i+1) out=Xl Z i row 8 (Sa Z N i out):=by rw [Sa,List.getD_eq_getElem?_getD,hrow];rfl
   generalize Sa Z N i out=q0 at hBi hRl hnx
   conv=>whnf
   repeat' (first|refine A2 ?_|refine AO ?_|refine Ad ?_|intro hlen)<;>conv=>whnf
   refine Ab (fun n:Nat=>⟨99,[(0,.ptr 0 0 0),(3,.rp [.lst (N.map AL),.lst (F.map V.bool)]),(5,.sl 4 0 N.length),(8,.bool (Xl Z i row n q0).2),(9,.int .i64 i),(34,.lst (N.map AL)),(35,.int .i64 (N.map AL).length),(36,.int .i64 i),(41,.lst (row.map (V.int .i64))),(42,.int .i64 (row.map (V.int .i64)).length),(43,.int .i64 n)],[some (.row 3 [.agg [.lst ty,.lst au,.sl 1 0 Z.length]]),some (.row 1 (Z.map (V.int .i64))),some (.hid vs [.ptr 0 0 0,.agg [.lst (N.map AL),.lst (F.map V.bool)]]),none,some (.row 1 ((Xl Z i row n q0).1.map (V.int .i64)))]⟩)
    (fun n=>n≤8∧∀x∈(Xl Z i row n q0).1,x≤1000000*(320*(k:Int)+8*(i:Int)+n+1)) (fun n=>8 - n) 0 hE ?_ ⟨Nat.zero_le _,fun x hx=>by have:=hBi x hx;omega⟩ ?_
   ·refine AP [0,3,5,8,9,34,35,36,41,42,43] ?_
    conv=>whnf
    rfl
   rintro n ⟨hn,hBn⟩
   have hql:(Xl Z i row n q0).1.length=N.length:=by rw [Qa,hRl,hOl,hol,hF]
   by_cases hn8:n < 8
   ·obtain ⟨x,hx⟩:∃x,row[n]?=some x:=⟨_,List.getElem?_eq_getElem (by omega)⟩
    obtain ⟨hx1,hx2⟩:=hxs x (List.mem_of_getElem? hx)
    have gx:(row.map (V.int .i64))[n]?=some (.int .i64 x):=by rw [List.getElem?_map,hx];rfl
    have hrn:row.getD n (-1)=x:=by rw [List.getD_eq_getElem?_getD,hx];rfl
    have hst:Xl Z i row (n+1) q0=jL Z i n x (Xl Z i row n q0):=by rw [Xl,hrn]
    generalize Xl Z i row n q0=q at hBn hql hst
    obtain ⟨out2,mo⟩:=q
    simp only at hBn hql
    have hom:(out2.map (V.int .i64)).length=out2.length:=by simp
    unfold jL at hst
    simp only at hst
    by_cases hx0:x < 0
    ·rw [if_pos hx0] at hst
     conv=>whnf
     repeat' (first|refine A2 ?_|refine AO ?_|refine AV ?_|refine Ad ?_)<;>conv=>whnf
     refine AD [0,3,5,8,9,34,35,36,41,42,43] (n+1) ⟨hn8,?_⟩ (by omega) ?_
     ·rw [hst];intro v hv;have:=hBn v hv;omega
     conv=>whnf
     rw [hst]
     rfl
    rw [if_neg hx0] at hst
    have hxn':x.toNat < out2.length:=by omega
    obtain ⟨y,hy⟩:∃y,out2[x.toNat]?=some y:=⟨_,List.getElem?_eq_getElem hxn'⟩
    have gy:(out2.map (V.int .i64))[0+Int.toNat x]?=some (.int .i64 y):=by rw [Nat.zero_add,List.getElem?_map,hy];rfl
    have hyD:out2.getD x.toNat 0=y:=by rw [List.getD_eq_getElem?_getD,hy];rfl
    rw [hyD] at hst
    have hyB:=hBn y (List.mem_of_getElem? hy)
    by_cases hy0:y < 0
    ·rw [if_pos hy0] at hst
     conv=>whnf
     repeat' (first|refine A2 ?_|refine A1 ?_|refine AO ?_|refine AV ?_|refine Ad ?_)<;>conv=>whnf
     refine AD [0,3,5,8,9,34,35,36,41,42,43] (n+1) ⟨hn8,?_⟩ (by omega) ?_
     ·rw [hst];intro v hv;have:=hBn v hv;omega
     conv=>whnf
     rw [hst]
     rfl
    rw [if_neg hy0] at hst
    have hnZ:n < Z.length:=by
     refine Classical.byContradiction fun hh=>?_
     have:=hxn n (by omega)
     rw [hrn] at this
     omega
    obtain ⟨z,hz⟩:∃z,Z[n]?=some z:=⟨_,List.getElem?_eq_getElem hnZ⟩
    obtain ⟨hz0,hz1⟩:=hZ z (List.mem_of_getElem? hz)
    have gz:(Z.map (V.int .i64))[0+Int.toNat (n:Int)]?=some (.int .i64 z):=by rw [Nat.zero_add,Int.toNat_natCast,List.getElem?_map,hz];rfl
    have hzD:Z.getD n 0=z:=by rw [List.getD_eq_getElem?_getD,hz];rfl
    rw [hzD] at hst
    by_cases hzz:z=0
    ·rw [if_pos hzz] at hst
     conv=>whnf
     repeat' (first|refine A2 ?_|refine A1 ?_|refine AO ?_|refine AV ?_|refine Ad ?_)<;>conv=>whnf
     refine AD [0,3,5,8,9,34,35,36,41,42,43] (n+1) ⟨hn8,?_⟩ (by omega) ?_
     ·rw [hst];intro v hv;have:=hBn v hv;omega
     conv=>whnf
     rw [hst]
     rfl
    rw [if_neg hzz] at hst
    obtain ⟨o,ho⟩:∃o,out2[i]?=some o:=⟨_,List.getElem?_eq_getElem (by omega)⟩
    have go:(out2.map (V.int .i64))[0+Int.toNat (i:Int)]?=some (.int .i64 o):=by rw [Nat.zero_add,Int.toNat_natCast,List.getElem?_map,ho];rfl
    have hoD:out2.getD i 0=o:=by rw [List.getD_eq_getElem?_getD,ho];rfl
    rw [hoD] at hst
    by_cases hc:o < 0∨z+y < o
    ·rw [if_pos hc] at hst
     have hsb:∀v∈out2.set i (z+y),v≤1000000*(320*(k:Int)+8*(i:Int)+((n+1:Nat):Int)+1):=fun v hv=>by
      rcases List.mem_or_eq_of_mem_set hv with h|h
      ·have:=hBn v h;omega
      ·omega
     rcases hc with hc|hc
     ·conv=>whnf
      repeat' (first|refine A2 ?_|refine A1 ?_|refine AO ?_|refine AV ?_|refine Ad ?_|(refine An hE ?_ ?_;decide +kernel))<;>conv=>whnf
      refine AD [0,3,5,8,9,34,35,36,41,42,43] (n+1) ⟨hn8,?_⟩ (by omega) ?_
      ·rw [hst];exact hsb
      conv=>whnf
      rw [hst,Nat.zero_add,Int.toNat_natCast,List.map_set]
      rfl
     ·by_cases ho0:o < 0
      all_goals
       conv=>whnf
       repeat' (first|refine A2 ?_|refine A1 ?_|refine AO ?_|refine AV ?_|refine Ad ?_|(refine An hE ?_ ?_;decide +kernel))<;>conv=>whnf
       all_goals first
       | (exfalso;omega)
       | (refine AD [0,3,5,8,9,34,35,36,41,42,43] (n+1) ⟨hn8,?_⟩ (by omega) ?_
          ·rw [hst];exact hsb
          conv=>whnf
          rw [hst,Nat.zero_add,Int.toNat_natCast,List.map_set]
          rfl)
    ·rw [if_neg hc] at hst
     have hc1:¬o < 0:=fun h=>hc (.inl h)
     have hc2:¬z+y < o:=fun h=>hc (.inr h)
     conv=>whnf
     repeat' (first|refine A2 ?_|refine A1 ?_|refine AO ?_|refine AV ?_|refine Ad ?_|(refine An hE ?_ ?_;decide +kernel))<;>conv=>whnf
     refine AD [0,3,5,8,9,34,35,36,41,42,43] (n+1) ⟨hn8,?_⟩ (by omega) ?_
     ·rw [hst];intro v hv;have:=hBn v hv;omega
     conv=>whnf
     rw [hst]
     rfl
   ·obtain rfl:n=8:=by omega
    conv=>whnf
    repeat' (first|refine A1 ?_|refine AV ?_)<;>conv=>whnf
    refine AD [0,3,5,8,34,35,36] (i+1) ⟨hlt,?_⟩ (by omega) ?_
    ·rw [hnx]
     intro v hv
     have:=hBn v hv
     omega
    conv=>whnf
    rw [hnx]
    try rfl
  ·obtain rfl:i=N.length:=by omega
   conv=>whnf
   repeat' refine A1 ?_<;>conv=>whnf
   refine AD [0,3,5,8] (k+1) ⟨hkR,?_⟩ (by omega) ?_
   ·rw [hstep]
    intro x hx
    have:=hBi x hx
    omega
   conv=>whnf
   rw [hstep]
 ·obtain rfl:k=R:=by omega
  rw [show LN Z N k out0=((LN Z N k out0).1,false) from Prod.ext rfl hend]
  generalize (LN Z N k out0).1=out at*
  have hom:(out.map (V.int .i64)).length=out.length:=by simp
  conv=>whnf
  skip
  refine Ap (A4 4 4 [] rfl (AJ out) rfl (by omega) rfl (AH (BP hE ?_)))
  conv=>whnf
  refine ⟨rfl,rfl,rfl,?_⟩
  simp only [Ob.frz,AX _ _ (AJ Z)]
  rfl
def Ft (a n:Int):Int:=if a.tmod n < 0 then a.tmod n+n else a.tmod n
theorem Hi (a:Int) {n:Int} (hn:0 < n):0≤Ft a n∧Ft a n < n:=by
 have h1:=Int.tmod_lt_of_pos a hn
 unfold Ft
 split
 ·have h2:-n < a.tmod n:=by
   have:=Int.lt_tmod_of_pos a hn
   omega
  omega
 ·omega
theorem UI (a n:Int) (hn:0 < n) (ha:-9223372036854775808≤a∧a≤9223372036854775807) (hn2:n≤9223372036854775807):Fn1 Tryz.prog 6 [.int .i64 a,.int .i64 n] (fun r=>r= .int .i64 (Ft a n)):=by
 have hr:=Hi a hn
 unfold Ft at hr ⊢
 refine Ax Tryz.func6 fun C hC hE=>?_
 conv=>whnf
 repeat' (first|refine AO ?_|refine AV ?_|refine GV (fun h=>?_) (fun h=>?_)|refine AC hE ?_)<;>conv=>whnf
 all_goals
  refine ⟨rfl,?_⟩
  (repeat' split)
  all_goals first|rfl|(exfalso;omega)
def II (l:List Int) (i:Nat) (s:List (List UInt8)):List UInt8:=match l[i]? with|none=>s.getD 0 []|some a=>s.getD (Ft a s.length).toNat []
set_option maxHeartbeats 4000000 in
theorem Kh (l:List Int) (hl:∀x∈l,-9223372036854775808≤x∧x≤9223372036854775807) (i:Nat) (hi:i≤1000) (s:List (List UInt8)) (hs:0 < s.length) (hs2:s.length≤1000):
 Fn1 Tryz.prog 15 [.int .i64 i,.lst (s.map V.str),.rp [AL l]] (fun r=>r= .str (II l i s)):=by
 have hlm:(l.map (V.int .i64)).length=l.length:=by simp
 have hsm:(s.map V.str).length=s.length:=by simp
 unfold II AL
 by_cases h:i < l.length
 ·obtain ⟨x,hx⟩:∃x,l[i]?=some x:=⟨_,List.getElem?_eq_getElem h⟩
  have hg:(l.map (V.int .i64))[i]?=some (.int .i64 x):=by rw [List.getElem?_map,hx];rfl
  have hr:=Hi x (n:=s.length) (by omega)
  have hp:=UI x s.length (by omega) (hl x (List.mem_of_getElem? hx)) (by omega)
  obtain ⟨j,hj⟩:∃j:Nat,Ft x s.length=j:=⟨(Ft x s.length).toNat,by omega⟩
  rw [hj] at hp hr
  obtain ⟨y,hy⟩:∃y,s[j]?=some y:=⟨_,List.getElem?_eq_getElem (by omega)⟩
  have hy2:(s.map V.str)[j]?=some (.str y):=by rw [List.getElem?_map,hy];rfl
  rw [←hsm] at hp
  refine Ax Tryz.func15 fun C hC hE=>?_
  conv=>whnf
  repeat' (first|refine A1 ?_|refine AO ?_|refine Ad ?_|refine AN hp hC GM ?_|refine AC hE ?_|intro hlen)<;>conv=>whnf
  all_goals
   refine ⟨rfl,?_⟩
   simp only [hx,hj,Int.toNat_natCast,List.getD_eq_getElem?_getD,hy,Option.getD_some]
 ·have hx:l[i]?=none:=List.getElem?_eq_none (by omega)
  obtain ⟨y,hy⟩:∃y,s[0]?=some y:=⟨_,List.getElem?_eq_getElem (by omega)⟩
  have hy2:(s.map V.str)[0]?=some (.str y):=by rw [List.getElem?_map,hy];rfl
  refine Ax Tryz.func15 fun C hC hE=>?_
  conv=>whnf
  repeat' (first|refine A2 ?_|refine AO ?_|refine Ad ?_|refine AC hE ?_|intro hlen)<;>conv=>whnf
  all_goals
   refine ⟨rfl,?_⟩
   simp only [hx,List.getD_eq_getElem?_getD,hy,Option.getD_some]
structure Ty where
 name:List UInt8
 content:List UInt8
 attrs:List (List UInt8)
def Cy (t:Ty):V:=.agg [.str t.name,.str t.content,.lst (t.attrs.map V.str)]
def wds0:List (List UInt8):=[[40,98,124,99,124,100,41,43],[99,63,98,42],[40,98,124,100,41,42],[99,98,43,100,63]]
def wds1:List (List UInt8):=[[103,63,40,102,43,103,63,41,42],[40,102,124,103,102,41,42,103,63],[103,63]]
def wds2:List (List UInt8):=[[103],[103,63]]
def wds3:List (List UInt8):=[[101,43],[101,101,42],[101,42]]
def wds4:List (List UInt8):=[[98,43],[103,63],[40,98,124,100,41,42]]
def wds5:List (List UInt8):=[[103],[103,63]]
def gB (l:List Int):List Ty:=[⟨[100,111,99],II l 0 wds0,[]⟩,⟨[112],II l 1 wds1,[[99,108,97,115,115]]⟩,⟨[104,49],II l 2 wds2,[]⟩,⟨[117,108],II l 3 wds3,[]⟩,⟨[108,105],II l 4 wds4,[]⟩,⟨[101,109],II l 5 wds5,[]⟩,⟨[],[],[]⟩]
set_option maxHeartbeats 4000000 in
theorem UJ (l:List Int) (hl:∀x∈l,-9223372036854775808≤x∧x≤9223372036854775807):Fn1 Tryz.prog 5 [AL l] (fun r=>r= .lst ((gB l).map Cy)):=by
 have h0:=Kh l hl 0 (by omega) wds0 (by decide) (by decide)
 have h1:=Kh l hl 1 (by omega) wds1 (by decide) (by decide)
 have h2:=Kh l hl 2 (by omega) wds2 (by decide) (by decide)
 have h3:=Kh l hl 3 (by omega) wds3 (by decide) (by decide)
 have h4:=Kh l hl 4 (by omega) wds4 (by decide) (by decide)
 have h5:=Kh l hl 5 (by omega) wds5 (by decide) (by decide)
 refine Pq ?_
 refine Ax Tryz.func5 fun C hC hE=>?_
 conv=>whnf
 repeat' (first|refine AY (AK 0 (z:=1) (els:=[AL l]) rfl ⟨trivial,trivial⟩ (AH ?_))|refine AY (AK 1 (z:=1) (els:=wds0.map V.str) rfl (Hw _) (AH ?_))|refine AY (AK 0 (z:=1) (els:=wds1.map V.str) rfl (Hw _) (AH ?_))|refine AY (AK 1 (z:=1) (els:=wds2.map V.str) rfl (Hw _) (AH ?_))|refine AY (AK 1 (z:=1) (els:=wds3.map V.str) rfl (Hw _) (AH ?_))|refine AY (AK 1 (z:=1) (els:=wds4.map V.str) rfl (Hw _) (AH ?_))|refine AN h0 hC EE ?_|refine AN h1 hC EE ?_|refine AN h2 hC EE ?_|refine AN h3 hC EE ?_|refine AN h4 hC EE ?_|refine AN h5 hC EE ?_|refine DD (AK 0 (z:=1) (els:=[.str [99,108,97,115,115]]) rfl ⟨trivial,trivial⟩ (AK 1 (z:=3) (els:=[.agg [.str [100,111,99],.str (II l 0 wds0),.nils],.agg [.str [112],.str (II l 1 wds1),.lst [.str [99,108,97,115,115]]],.agg [.str [104,49],.str (II l 2 wds2),.nils],.agg [.str [117,108],.str (II l 3 wds3),.nils],.agg [.str [108,105],.str (II l 4 wds4),.nils],.agg [.str [101,109],.str (II l 5 wds5),.nils],.agg [.str [],.str [],.nils]]) rfl ⟨⟨trivial,trivial,trivial,trivial⟩,⟨trivial,trivial,trivial,trivial⟩,⟨trivial,trivial,trivial,trivial⟩,⟨trivial,trivial,trivial,trivial⟩,⟨trivial,trivial,trivial,trivial⟩,⟨trivial,trivial,trivial,trivial⟩,⟨trivial,trivial,trivial,trivial⟩,trivial⟩ (AH ?_)))|refine AC hE ?_)<;>conv=>whnf
 all_goals exact ⟨rfl,rfl⟩
structure Mc where
 N:List (List Int)
 F:List Bool
def BB (m:Mc):V:=.agg [.lst (m.N.map AL),.lst (m.F.map V.bool)]
def rR (Z:List Int) (m:Mc):Nat:=((List.range 101).find? fun k=>!(LN Z m.N k (EC m.F m.F.length)).2).getD 0
def O5 (Z:List Int) (m:Mc):List Int:=(LN Z m.N (rR Z m) (EC m.F m.F.length)).1
def NK (Z:List Int) (m:Mc):Bool:=
 (Z.all fun z=>decide (0≤z)&&decide (z≤1000000))&&(m.N.all fun r=>decide (r.length=8)&&(r.all fun x=>decide (-1≤x)&&decide (x < m.N.length))&&(List.range 8).all fun n=>decide (n < Z.length) || decide (r.getD n (-1) < 0))&&
  decide (m.F.length=m.N.length)&&decide (1≤m.N.length)&&decide (m.N.length≤40)&&(!(LN Z m.N (rR Z m) (EC m.F m.F.length)).2)&&decide (rR Z m≤100)&&(List.range (rR Z m)).all fun k=>(LN Z m.N k (EC m.F m.F.length)).2
theorem Lf {Z:List Int} {m:Mc} (h:NK Z m=true) (ty au:List V):HFn Tryz.prog 69 [.ptr 0 0 0,BB m] [.row 3 [Sb ty au Z.length],.row 1 (Z.map (V.int .i64))] [0] (fun r o=>r=AL (O5 Z m)∧o=[.row 3 [Sb ty au Z.length],.row 1 (Z.map (V.int .i64))]):=by
 unfold NK at h
 simp only [Bool.and_eq_true,List.all_eq_true,decide_eq_true_eq,Bool.or_eq_true,List.mem_range,Bool.not_eq_true'] at h
 obtain ⟨⟨⟨⟨⟨⟨⟨h1,h2⟩,h3⟩,_⟩,h5⟩,h6⟩,h7⟩,h8⟩:=h
 refine f8 ty au Z m.N m.F (rR Z m) h1 (fun r hr=>⟨(h2 r hr).1.1,(h2 r hr).1.2,fun n hn=>?_⟩) h3 h5 h7 h6 h8
 by_cases hn8:n < 8
 ·rcases (h2 r hr).2 n hn8 with h|h
  ·omega
  ·exact h
 ·rw [List.getD_eq_getElem?_getD,List.getElem?_eq_none (by rw [(h2 r hr).1.1];omega)]
  decide
def gf (nm:Bool) (m:Mc) (i:Nat) (s:List Int×Bool):List Int×Bool:=
 if nm=true∧(O5 s.1 m).getD 0 0 < 0 then s else
 if s.1.getD i 0=0∨(if nm then 1+(O5 s.1 m).getD 0 0 else 1) < s.1.getD i 0 then (s.1.set i (if nm then 1+(O5 s.1 m).getD 0 0 else 1),true) else s
def Jk (L:List (Bool×Mc)):Nat→List Int→List Int×Bool
 | 0,out=>(out,false)
 | i+1,out=>gf (L.getD i (false,⟨[],[]⟩)).1 (L.getD i (false,⟨[],[]⟩)).2 i (Jk L i out)
def H3 (L:List (Bool×Mc)):Nat→List Int→List Int×Bool
 | 0,out=>(out,true)
 | k+1,out=>Jk L L.length (H3 L k out).1
theorem dM (nm:Bool) (m:Mc) (i:Nat) (s:List Int×Bool):(gf nm m i s).1.length=s.1.length:=by
 unfold gf
 repeat' split
 all_goals simp
theorem Jl (L:List (Bool×Mc)):∀(i:Nat) (out:List Int),(Jk L i out).1.length=out.length
 | 0,out=>rfl
 | i+1,out=>by rw [Jk,dM,Jl L i out]
theorem Vs (L:List (Bool×Mc)) (out:List Int):∀k,(H3 L k out).1.length=out.length
 | 0=>rfl
 | k+1=>by rw [H3,Jl,Vs L out k]
theorem fW {Z:List Int} {m:Mc} (h:NK Z m=true):0 < m.F.length:=by
 unfold NK at h
 simp only [Bool.and_eq_true,List.all_eq_true,decide_eq_true_eq,Bool.or_eq_true,List.mem_range,Bool.not_eq_true'] at h
 obtain ⟨⟨⟨⟨⟨⟨⟨h1,h2⟩,h3⟩,h4⟩,h5⟩,h6⟩,h7⟩,h8⟩:=h
 omega
theorem dN {Z:List Int} {m:Mc}:(O5 Z m).length=m.F.length:=by unfold O5;rw [Qc,NT]
def SK:Nat→Nat|1=>2|j=>j
theorem H4 {C:Ctx} {P:Program} {f:FuncId} {a:V} {ty au:List V} {Z y:List Int} {fop:Operand} {args:List Operand} {K:V→ES→Prop} {σ:ES} (h':List (Option Ob)) (h:HFn P f [.ptr 0 0 0,a] [.row 3 [Sb ty au Z.length],.row 1 (Z.map (V.int .i64))] [0] (fun r o=>r=AL y∧o=[.row 3 [Sb ty au Z.length],.row 1 (Z.map (V.int .i64))])) (hC:C.P=P) (hb:AB P f=true)
 (he:BO σ fop args=some (f,[.ptr 0 0 0,a])) (ha:a.nr) (h0:σ.heap[0]?=some (some (.row 3 [.agg [.lst ty,.lst au,.sl 2 0 Z.length]]))) (h2:σ.heap[2]?=some (some (.row 1 (Z.map (V.int .i64)))))
 (e:fH (BL SK [.row 3 [.agg [.lst ty,.lst au,.sl 2 0 Z.length]],.row 1 (Z.map (V.int .i64))] 0 (BG [2] σ.heap)) fun h=>h=h') (hK:ge [2] σ.u fun u=>K (AL y) ⟨σ.n,u,h'⟩):CallN C fop args f [.ptr 0 0 0,a] K σ:=by
 rw [QI] at hK
 rw [A7] at e
 have r0:Ns 2 SK (.row 3 [Sb ty au Z.length]) (.row 3 [.agg [.lst ty,.lst au,.sl 2 0 Z.length]]):=⟨_,rfl,_,_,rfl,⟨_,rfl,_,_,rfl,rfl,_,_,rfl,rfl,_,_,rfl,⟨by decide,rfl⟩,rfl⟩,rfl⟩
 have r1:Ns 2 SK (.row 1 (Z.map (V.int .i64))) (.row 1 (Z.map (V.int .i64))):=Ik (AJ Z)
 have hcs:∀j,j < 2→j=0∨j=1:=fun j hj=>by omega
 refine Fy h hC hb he SK (fun i j hi hj e=>?_) ⟨_,_,rfl,⟨Nat.zero_lt_succ _,rfl⟩,_,_,rfl,FK _ ha,rfl⟩ (fun j o ho=>?_) [2] (fun j hj hm=>?_) (fun id hid=>?_) ?_
 ·rcases hcs i hi with rfl|rfl<;>rcases hcs j hj with rfl|rfl
  ·rfl
  ·cases e
  ·cases e
  ·rfl
 ·rcases hcs j (List.getElem?_eq_some_iff.1 ho).1 with rfl|rfl
  ·cases ho;exact ⟨_,h0,r0⟩
  ·cases ho;exact ⟨_,h2,r1⟩
 ·rcases hcs j hj with rfl|rfl
  ·simp
  ·exact absurd (show SK 1∈[2] from List.mem_singleton.2 rfl) hm
 ·rw [List.mem_singleton] at hid
  subst hid
  exact ⟨1,Nat.lt_succ_self _,rfl⟩
 ·rintro r0' objs' ⟨rfl,rfl⟩ _
  refine ⟨AL y,[.row 3 [.agg [.lst ty,.lst au,.sl 2 0 Z.length]],.row 1 (Z.map (V.int .i64))],rfl,rfl,fun j o o' ho ho'=>?_,by rw [e];exact hK⟩
  rcases hcs j (List.getElem?_eq_some_iff.1 ho).1 with rfl|rfl
  ·cases ho;cases ho';exact r0
  ·cases ho;cases ho';exact r1
def eE (t:Ty):Bool:=!t.name.isEmpty
def Co (l:List Ty) (ms:List Mc):List (Bool×Mc):=(l.map eE).zip ms
set_option maxHeartbeats 16000000 in
theorem XW (l:List Ty) (ms:List Mc) (hlm:ms.length=l.length) (hl:l.length≤8) (R:Nat) (hR:R≤100) (hend:(H3 (Co l ms) R (List.replicate l.length 0)).2=false) (hgo:∀k,k < R→(H3 (Co l ms) k (List.replicate l.length 0)).2=true)
 (hok:∀k,k < R→∀i m,ms[i]?=some m→NK (Jk (Co l ms) i (H3 (Co l ms) k (List.replicate l.length 0)).1).1 m=true) (hbd:∀k,k < R→∀i m,ms[i]?=some m→∀x∈O5 (Jk (Co l ms) i (H3 (Co l ms) k (List.replicate l.length 0)).1).1 m,x≤1000000):
 HFn Tryz.prog 37 [.ptr 0 0 0] [.row 3 [.agg [.lst (l.map Cy),.lst (ms.map BB),.nils]]] [0] (fun r o=>r= .tup []∧o=[.row 3 [.agg [.lst (l.map Cy),.lst (ms.map BB),AL (H3 (Co l ms) R (List.replicate l.length 0)).1]]]):=by
 have hlM:(l.map Cy).length=l.length:=by simp
 have hmM:(ms.map BB).length=ms.length:=by simp
 refine IJ Tryz.func37 fun C vs hC hE=>?_
 generalize hz0:List.replicate l.length (0:Int)=z0 at*
 have hz0l:z0.length=l.length:=by rw [←hz0];simp
 conv=>whnf
 repeat' (first|refine AO ?_|intro hlen)<;>conv=>whnf
 refine Ab (fun k:Nat=>⟨73,[(0,.ptr 0 0 0),(2,.bool (H3 (Co l ms) k z0).2)],[some (.row 3 [.agg [.lst (l.map Cy),.lst (ms.map BB),.sl 2 0 l.length]]),some (.hid vs [.ptr 0 0 0]),some (.row 1 ((H3 (Co l ms) k z0).1.map (V.int .i64)))]⟩)
  (fun k=>k≤R) (fun k=>R - k) 0 hE ?_ (Nat.zero_le _) ?_
 ·refine AP [0,2] ?_
  conv=>whnf
  have hrep:List.replicate l.length (V.int .i64 0)=z0.map (V.int .i64):=by rw [←hz0,List.map_replicate]
  simp only [hlM,Int.toNat_natCast,hrep]
  rfl
 intro k hk
 have hOl:=Vs (Co l ms) z0 k
 have hstep:H3 (Co l ms) (k+1) z0=Jk (Co l ms) (Co l ms).length (H3 (Co l ms) k z0).1:=rfl
 have hLl:(Co l ms).length=l.length:=by simp [Co,hlm]
 rw [hLl] at hstep
 by_cases hkR:k < R
 ·have hm:=hgo k hkR
  have hok:=hok k hkR
  have hbd:=hbd k hkR
  generalize H3 (Co l ms) k z0=q at hOl hstep hm hok hbd
  obtain ⟨out,more⟩:=q
  simp only at hm hOl hstep hok hbd
  subst hm
  conv=>whnf
  repeat' intro hlen<;>conv=>whnf
  refine Ab (fun i:Nat=>⟨73,[(0,.ptr 0 0 0),(2,.bool (Jk (Co l ms) i out).2),(20,.lst (l.map Cy)),(21,.int .i64 (l.map Cy).length),(22,.int .i64 i)],[some (.row 3 [.agg [.lst (l.map Cy),.lst (ms.map BB),.sl 2 0 l.length]]),some (.hid vs [.ptr 0 0 0]),some (.row 1 ((Jk (Co l ms) i out).1.map (V.int .i64)))]⟩)
   (fun i=>i≤l.length) (fun i=>l.length - i) 0 hE ?_ (Nat.zero_le _) ?_
  ·refine AP [0,2,20,21,22] ?_
   conv=>whnf
   rfl
  intro i hi
  have hRl:=Jl (Co l ms) i out
  by_cases hlt:i < l.length
  ·obtain ⟨t,ht⟩:∃t,l[i]?=some t:=⟨_,List.getElem?_eq_getElem hlt⟩
   obtain ⟨m,hmm⟩:∃m,ms[i]?=some m:=⟨_,List.getElem?_eq_getElem (by omega)⟩
   have gt:(l.map Cy)[i]?=some (Cy t):=by rw [List.getElem?_map,ht];rfl
   have gm:(ms.map BB)[Int.toNat (i:Int)]?=some (BB m):=by rw [Int.toNat_natCast,List.getElem?_map,hmm];rfl
   have hLi:(Co l ms).getD i (false,⟨[],[]⟩)=(eE t,m):=by
    rw [List.getD_eq_getElem?_getD]
    unfold Co
    rw [List.getElem?_zip_eq_some (z:=(eE t,m)) |>.2 ⟨by rw [List.getElem?_map,ht];rfl,hmm⟩]
    rfl
   have hnx:Jk (Co l ms) (i+1) out=gf (eE t) m i (Jk (Co l ms) i out):=by rw [Jk,hLi]
   have hokm:=hok i m hmm
   have hbdm:=hbd i m hmm
   generalize Jk (Co l ms) i out=q0 at hRl hnx hokm hbdm
   obtain ⟨Z,mo⟩:=q0
   simp only at hRl hokm hbdm
   have hZl:Z.length=l.length:=by omega
   have hZm:(Z.map (V.int .i64)).length=Z.length:=by simp
   obtain ⟨o,ho⟩:∃o,Z[i]?=some o:=⟨_,List.getElem?_eq_getElem (by omega)⟩
   have go:(Z.map (V.int .i64))[0+Int.toNat (i:Int)]?=some (.int .i64 o):=by rw [Nat.zero_add,Int.toNat_natCast,List.getElem?_map,ho];rfl
   have hoD:Z.getD i 0=o:=by rw [List.getD_eq_getElem?_getD,ho];rfl
   unfold gf at hnx
   simp only [hoD] at hnx
   have hset:∀v:Int,(Z.map (V.int .i64)).set (0+Int.toNat (i:Int)) (.int .i64 v)=(Z.set i v).map (V.int .i64):=fun v=>by rw [Nat.zero_add,Int.toNat_natCast,List.map_set]
   by_cases hnm:t.name=[]
   ·have hb:eE t=false:=by unfold eE;rw [hnm];rfl
    rw [hb] at hnx
    simp only [Bool.false_eq_true,false_and,if_false] at hnx
    by_cases hc:o=0∨1 < o
    ·rw [if_pos hc] at hnx
     rcases hc with hc|hc
     ·conv=>whnf
      repeat' (first|refine A2 ?_|refine AO ?_|refine AV ?_|refine Ad ?_)<;>conv=>whnf
      all_goals first
      | (exfalso;omega)
      | (refine AM [0,2,20,21,22] [3] (i+1) hlt (by omega) ?_
         conv=>whnf
         rw [hnx]
         simp only [hset,AA _ (AJ _)]
         rfl)
     ·by_cases ho0:o=0
      all_goals
       conv=>whnf
       repeat' (first|refine A2 ?_|refine A1 ?_|refine AO ?_|refine AV ?_|refine Ad ?_)<;>conv=>whnf
       all_goals first
       | (exfalso;omega)
       | (refine AM [0,2,20,21,22] [3] (i+1) hlt (by omega) ?_
          conv=>whnf
          rw [hnx]
          simp only [hset,AA _ (AJ _)]
          rfl)
    ·rw [if_neg hc] at hnx
     have hc1:¬o=0:=fun h=>hc (.inl h)
     have hc2:¬1 < o:=fun h=>hc (.inr h)
     conv=>whnf
     repeat' (first|refine A2 ?_|refine A1 ?_|refine AO ?_|refine AV ?_|refine Ad ?_)<;>conv=>whnf
     all_goals first
     | (exfalso;omega)
     | (refine AM [0,2,20,21,22] [3] (i+1) hlt (by omega) ?_
        conv=>whnf
        rw [hnx]
        simp only [AA _ (AJ _)]
        rfl)
   ·have hb:eE t=true:=by unfold eE;cases h:t.name with|nil=>exact absurd h hnm|cons a b=>rfl
    rw [hb] at hnx
    simp only [true_and,if_true] at hnx
    obtain ⟨y,hy⟩:∃y,(O5 Z m)[0]?=some y:=⟨_,List.getElem?_eq_getElem (by rw [dN];exact fW hokm)⟩
    have gy:((O5 Z m).map (V.int .i64))[Int.toNat 0]?=some (.int .i64 y):=by show ((O5 Z m).map (V.int .i64))[0]?=_;rw [List.getElem?_map,hy];rfl
    have hyD:(O5 Z m).getD 0 0=y:=by rw [List.getD_eq_getElem?_getD,hy];rfl
    have hyb:=hbdm y (List.mem_of_getElem? hy)
    rw [hyD] at hnx
    have h0Z:(some (some (Ob.row 3 [.agg [.lst (l.map Cy),.lst (ms.map BB),.sl 2 0 l.length]])):Option (Option Ob))=some (some (.row 3 [.agg [.lst (l.map Cy),.lst (ms.map BB),.sl 2 0 Z.length]])):=by rw [hZl]
    by_cases hy0:y < 0
    ·rw [if_pos hy0] at hnx
     conv=>whnf
     repeat' (first|(first|refine A2 ?_|refine A1 ?_|refine AO ?_|refine AV ?_|refine Ad ?_)<;>conv=>whnf|(refine H4 [some (.row 3 [.agg [.lst (l.map Cy),.lst (ms.map BB),.sl 2 0 Z.length]]),some (.hid vs [.ptr 0 0 0]),some (.row 1 (Z.map (V.int .i64))),some (.row 3 [Cy t])] (Lf hokm (l.map Cy) (ms.map BB)) hC Gr rfl ⟨trivial,trivial,trivial⟩ h0Z rfl ?_ ?_;((conv=>whnf);rfl);(unfold AL;conv=>whnf)))
     all_goals first
     | (exfalso;omega)
     | (refine AM [0,2,20,21,22] [3] (i+1) hlt (by omega) ?_
        conv=>whnf
        rw [hnx]
        simp only [hZl,AA _ (AJ _)]
        rfl)
    ·rw [if_neg hy0] at hnx
     by_cases hc:o=0∨1+y < o
     ·rw [if_pos hc] at hnx
      rcases hc with hc|hc
      ·conv=>whnf
       repeat' (first|(first|refine A2 ?_|refine A1 ?_|refine AO ?_|refine AV ?_|refine Ad ?_)<;>conv=>whnf|(refine H4 [some (.row 3 [.agg [.lst (l.map Cy),.lst (ms.map BB),.sl 2 0 Z.length]]),some (.hid vs [.ptr 0 0 0]),some (.row 1 (Z.map (V.int .i64))),some (.row 3 [Cy t])] (Lf hokm (l.map Cy) (ms.map BB)) hC Gr rfl ⟨trivial,trivial,trivial⟩ h0Z rfl ?_ ?_;((conv=>whnf);rfl);(unfold AL;conv=>whnf)))
       all_goals first
       | (exfalso;omega)
       | (refine AM [0,2,20,21,22] [3] (i+1) hlt (by omega) ?_
          conv=>whnf
          rw [hnx]
          simp only [hset,hZl,AA _ (AJ _)]
          rfl)
      ·by_cases ho0:o=0
       all_goals
        conv=>whnf
        repeat' (first|(first|refine A2 ?_|refine A1 ?_|refine AO ?_|refine AV ?_|refine Ad ?_)<;>conv=>whnf|(refine H4 [some (.row 3 [.agg [.lst (l.map Cy),.lst (ms.map BB),.sl 2 0 Z.length]]),some (.hid vs [.ptr 0 0 0]),some (.row 1 (Z.map (V.int .i64))),some (.row 3 [Cy t])] (Lf hokm (l.map Cy) (ms.map BB)) hC Gr rfl ⟨trivial,trivial,trivial⟩ h0Z rfl ?_ ?_;((conv=>whnf);rfl);(unfold AL;conv=>whnf)))
        all_goals first
        | (exfalso;omega)
        | (refine AM [0,2,20,21,22] [3] (i+1) hlt (by omega) ?_
           conv=>whnf
           rw [hnx]
           simp only [hset,hZl,AA _ (AJ _)]
           rfl)
     ·rw [if_neg hc] at hnx
      have hc1:¬o=0:=fun h=>hc (.inl h)
      have hc2:¬1+y < o:=fun h=>hc (.inr h)
      conv=>whnf
      repeat' (first|(first|refine A2 ?_|refine A1 ?_|refine AO ?_|refine AV ?_|refine Ad ?_)<;>conv=>whnf|(refine H4 [some (.row 3 [.agg [.lst (l.map Cy),.lst (ms.map BB),.sl 2 0 Z.length]]),some (.hid vs [.ptr 0 0 0]),some (.row 1 (Z.map (V.int .i64))),some (.row 3 [Cy t])] (Lf hokm (l.map Cy) (ms.map BB)) hC Gr rfl ⟨trivial,trivial,trivial⟩ h0Z rfl ?_ ?_;((conv=>whnf);rfl);(unfold AL;conv=>whnf)))
      all_goals first
      | (exfalso;omega)
      | (refine AM [0,2,20,21,22] [3] (i+1) hlt (by omega) ?_
         conv=>whnf
         rw [hnx]
         simp only [hZl,AA _ (AJ _)]
         rfl)
  ·obtain rfl:i=l.length:=by omega
   conv=>whnf
   repeat' refine A1 ?_<;>conv=>whnf
   refine AD [0,2] (k+1) hkR (by omega) ?_
   conv=>whnf
   rw [hstep]
 ·obtain rfl:k=R:=by omega
  rw [show H3 (Co l ms) k z0=((H3 (Co l ms) k z0).1,false) from Prod.ext rfl hend]
  generalize (H3 (Co l ms) k z0).1=out at*
  have hom:(out.map (V.int .i64)).length=out.length:=by simp
  conv=>whnf
  skip
  refine Ap (AK 2 rfl (AJ out) (A0 [some (.row 3 [.agg [.lst (l.map Cy),.lst (ms.map BB),AL out]]),some (.hid vs [.ptr 0 0 0]),none] ?_ (AH (BP hE ?_))))
  ·conv=>whnf
   have e1:(V.sl 2 0 l.length).frz 2 (out.map (V.int .i64))= .lst (out.map (V.int .i64)):=B0 2 _ (by omega)
   have fa:∀id els l,(V.agg l).frz id els= .agg (Ai id els l):=fun _ _ _=>by simp only [V.frz]
   have fl:∀id els l,(V.lst l).frz id els= .lst l:=fun _ _ _=>by simp only [V.frz]
   simp only [Ai,fa,e1,fl]
   rfl
  ·conv=>whnf
   exact ⟨rfl,rfl,rfl,rfl⟩
theorem T3 {L0:Md} {R:List (List Int)} {G:List Bool} {r:V} (hc:CanonM L0 R G) (h40:R.length≤40) (h:iP L0 r):r= .tup [BB ⟨R,G⟩,.int .i64 0]:=by
 rcases h with ⟨hd,_⟩|⟨R',G',hc',e⟩
 ·exfalso
  obtain ⟨ls,hls,_⟩:=hc.ex
  have h0:=hls.inv.first
  exact hls.inv.live _ (List.mem_of_getElem? h0) hd
 ·obtain ⟨rfl,rfl⟩:=Wl hc hc'
  rw [e,if_pos h40]
  rfl
theorem XX {N:List (List Int)} {F:List Bool} {n:Nat} {C:List Int} {Ws:List (List Nat)} {S:List Nat} {R:List (List Int)} {G:List Bool} (hWF:WFp n N F) (h1:1≤n) (hn2:n≤1048575) (hc:QL (Eh n N) (Dg F) C Ws S R G=true) (h40:R.length≤40):
 Fn1G Tryz.prog GT 25 [Dn N F] (fun r=>r= .tup [BB ⟨R,G⟩,.int .i64 0]):=
 fun w I vs hg hl hv hi=>(SM hWF h1 hn2 w I vs hg hl hv hi).mono fun _ _ ⟨v,r,I',a,b,c⟩=>⟨v,r,I',a,T3 (XJ hc) h40 b,c⟩
end Go.Proofs.YtkaiffheakalmaaGreatDoor
