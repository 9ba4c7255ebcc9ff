/- Joined. No conditions. -/
import Derived.Test.YtkaiffheakalmaaGreatDoorJ9at
import Derived.Tactics
import Derived.MapKept
set_option linter.unusedSimpArgs false
set_option linter.unusedVariables false
set_option maxRecDepth 100000
namespace Go.Proofs.YtkaiffheakalmaaGreatDoor
section
open Go.RowKit
def CV (A:List Int) (j:Nat):Int:=A.getD j 0
theorem Fs {A:List Int} {j:Nat} (h:j < A.length):A[j]?=some (CV A j):=by
 unfold CV
 rw [List.getD_eq_getElem?_getD,List.getElem?_eq_getElem h]
 rfl
theorem QY {A:List Int} {i:Nat} (h:i < A.length) (v:Int) (j:Nat):CV (A.set i v) j=if j=i then v else CV A j:=by
 unfold CV
 rw [List.getD_eq_getElem?_getD,List.getD_eq_getElem?_getD,List.getElem?_set]
 by_cases e:i=j
 ·subst e;simp [h]
 ·rw [if_neg e,if_neg (fun h=>e h.symm)]
theorem QZ {A:List Int} {z:Int}:z∈A↔∃p,p < A.length∧CV A p=z:=by
 constructor
 ·intro h
  obtain ⟨p,hp⟩:=List.mem_iff_getElem?.1 h
  have hlt:=(List.getElem?_eq_some_iff.1 hp).1
  refine ⟨p,hlt,?_⟩
  rw [Fs hlt] at hp
  exact Option.some.inj hp
 ·rintro ⟨p,hp,rfl⟩
  exact List.mem_of_getElem? (Fs hp)
def dW (A:List Int) (j:Nat):List Int:=(A.set j (CV A (j - 1))).set (j - 1) (CV A j)
theorem Vw (A:List Int) (j:Nat):(dW A j).length=A.length:=by simp [dW]
theorem NP {A:List Int} {j:Nat} (h0:0 < j) (h:j < A.length) (p:Nat):CV (dW A j) p=if p=j then CV A (j - 1) else if p=j - 1 then CV A j else CV A p:=by
 unfold dW
 rw [QY (by rw [List.length_set];omega),QY h]
 by_cases e:p=j
 ·rw [if_neg (by omega),if_pos e,if_pos e]
 ·rw [if_neg e,if_neg e]
theorem dX {A:List Int} {j:Nat} (h0:0 < j) (h:j < A.length) (z:Int):z∈dW A j↔z∈A:=by
 rw [QZ,QZ,Vw]
 constructor
 ·rintro ⟨p,hp,e⟩
  rw [NP h0 h] at e
  split at e
  ·exact ⟨j - 1,by omega,e⟩
  ·split at e
   ·exact ⟨j,h,e⟩
   ·exact ⟨p,hp,e⟩
 ·rintro ⟨p,hp,e⟩
  by_cases e1:p=j
  ·exact ⟨j - 1,by omega,by rw [NP h0 h,if_neg (by omega),if_pos rfl,←e1];exact e⟩
  ·by_cases e2:p=j - 1
   ·exact ⟨j,h,by rw [NP h0 h,if_pos rfl,←e2];exact e⟩
   ·exact ⟨p,hp,by rw [NP h0 h,if_neg e1,if_neg e2];exact e⟩
structure Srt (L A:List Int) (i:Nat):Prop where
 len:A.length=L.length
 mem:∀z,z∈A↔z∈L
 ord:∀p q,p < q→q < i→CV A p≤CV A q
structure Ins (L A:List Int) (i j:Nat):Prop where
 len:A.length=L.length
 mem:∀z,z∈A↔z∈L
 ord:∀p q,p < q→q≤i→q≠j→CV A p≤CV A q
theorem Srt.ins {L A:List Int} {i:Nat} (h:Srt L A i):Ins L A i i:=⟨h.len,h.mem,fun p q h1 h2 h3=>h.ord p q h1 (by omega)⟩
theorem Ins.done {L A:List Int} {i j:Nat} (h:Ins L A i j) (hd:j=0∨CV A (j - 1)≤CV A j) (hj:j≤i):Srt L A (i+1):=by
 refine ⟨h.len,h.mem,fun p q h1 h2=>?_⟩
 by_cases e:q=j
 ·subst e
  rcases hd with hd|hd
  ·omega
  ·by_cases e2:p=q - 1
   ·rw [e2];exact hd
   ·exact Int.le_trans (h.ord p (q - 1) (by omega) (by omega) (by omega)) hd
 ·exact h.ord p q h1 (by omega) e
theorem Ins.step {L A:List Int} {i j:Nat} (h:Ins L A i j) (h0:0 < j) (hj:j≤i) (hi:i < L.length) (hlt:CV A j < CV A (j - 1)):Ins L (dW A j) i (j - 1):=by
 have hl:=h.len
 refine ⟨by rw [Vw,hl],fun z=>by rw [dX h0 (by omega),h.mem],fun p q h1 h2 h3=>?_⟩
 have hw:=NP (A:=A) h0 (by omega)
 rw [hw,hw]
 by_cases e:q=j
 ·rw [if_pos e,if_neg (by omega)]
  by_cases e2:p=j - 1
  ·rw [if_pos e2];omega
  ·rw [if_neg e2]
   exact h.ord p (j - 1) (by omega) (by omega) (by omega)
 ·rw [if_neg e,if_neg h3]
  by_cases e1:p=j
  ·rw [if_pos e1]
   exact h.ord (j - 1) q (by omega) h2 e
  ·rw [if_neg e1]
   by_cases e2:p=j - 1
   ·rw [if_pos e2]
    by_cases e3:q < j
    ·omega
    ·exact h.ord j q (by omega) h2 e
   ·rw [if_neg e2]
    exact h.ord p q h1 h2 e
def UE (L A:List Int):Prop:=Srt L A L.length
theorem aa (x:Int):Fn1 Tryz.prog 124 [.int .i64 x] (fun r=>r= .bool false):=by
 refine Ax Tryz.func124 fun C hC hE=>?_
 conv=>whnf
 repeat' (first|refine A2 ?_|refine AC hE ?_)<;>conv=>whnf
 exact ⟨rfl,rfl⟩
theorem PB (x y:Int):Fn1 Tryz.prog 110 [.int .i64 x,.int .i64 y] (fun r=>r= .bool (decide (x < y))):=by
 by_cases h:x < y
 ·rw [decide_eq_true h]
  refine Ax Tryz.func110 fun C hC hE=>?_
  conv=>whnf
  repeat' (first|refine A2 ?_|refine AN (aa x) hC K8 ?_|refine AC hE ?_)<;>conv=>whnf
  all_goals exact ⟨rfl,rfl⟩
 ·rw [decide_eq_false h]
  refine Ax Tryz.func110 fun C hC hE=>?_
  conv=>whnf
  repeat' (first|refine A1 ?_|refine AN (aa x) hC K8 ?_|refine AC hE ?_)<;>conv=>whnf
  all_goals exact ⟨rfl,rfl⟩
theorem Lh {A:List Int} {j:Nat} (h:j < A.length):(A.map (V.int .i64))[0+Int.toNat (j:Int)]?=some (.int .i64 (CV A j)):=by
 rw [Nat.zero_add,Int.toNat_natCast,List.getElem?_map,Fs h]
 rfl
theorem ST {A:List Int} {j:Nat} (h0:0 < j) (h:j < A.length):(A.map (V.int .i64))[0+Int.toNat ((j:Int) - 1)]?=some (.int .i64 (CV A (j - 1))):=by
 rw [show ((j:Int) - 1)=((j - 1:Nat):Int) by omega]
 exact Lh (by omega)
set_option maxHeartbeats 8000000 in
theorem ab (L:List Int) (h0:0 < L.length) (h12:L.length≤12):HFn Tryz.prog 104 [.sl 0 0 L.length,.int .i64 0,.int .i64 L.length] [.row 1 (L.map (V.int .i64))] [0] (fun r o=>r= .tup []∧∃A,UE L A∧o=[.row 1 (A.map (V.int .i64))]):=by
 have hbl:Nat.blt 0 L.length=true:=by rw [Nat.blt_eq];exact h0
 refine IJ Tryz.func104 fun C vs hC hE=>?_
 conv=>whnf
 repeat' refine AV ?_<;>conv=>whnf
 refine Ab (fun ((i,A):Nat×List Int)=>⟨49,[(0,.sl 0 0 L.length),(1,.int .i64 0),(2,.int .i64 L.length),(6,.int .i64 i)],[some (.row 1 (A.map (V.int .i64))),some (.hid vs [.sl 0 0 L.length,.int .i64 0,.int .i64 L.length])]⟩)
  (fun (i,A)=>1≤i∧i≤L.length∧Srt L A i) (fun (i,_)=>L.length - i) (1,L) hE ?_ ⟨Nat.le_refl _,h0,rfl,fun z=>Iff.rfl,fun p q h1 h2=>by omega⟩ ?_
 ·refine AP [0,1,2,6] ?_
  conv=>whnf
  rfl
 rintro ⟨i,A⟩ ⟨hi1,hi,hS⟩
 have hAl:=hS.len
 have hAm:(A.map (V.int .i64)).length=A.length:=by simp
 by_cases hlt:i < L.length
 ·conv=>whnf
  repeat' refine A2 ?_<;>conv=>whnf
  refine Ab (fun ((j,A):Nat×List Int)=>⟨49,[(0,.sl 0 0 L.length),(1,.int .i64 0),(2,.int .i64 L.length),(6,.int .i64 i),(7,.int .i64 j)],[some (.row 1 (A.map (V.int .i64))),some (.hid vs [.sl 0 0 L.length,.int .i64 0,.int .i64 L.length])]⟩)
   (fun (j,A)=>j≤i∧Ins L A i j) (fun (j,_)=>j) (i,A) hE ?_ ⟨Nat.le_refl _,hS.ins⟩ ?_
  ·refine AP [0,1,2,6,7] ?_
   conv=>whnf
   try rfl
  clear hS hAl hAm
  rintro ⟨j,B⟩ ⟨hj,hI⟩
  have hBl:=hI.len
  have hBm:(B.map (V.int .i64)).length=B.length:=by simp
  by_cases hj0:0 < j
  ·have g1:=Lh (A:=B) (j:=j) (by omega)
   have g2:=ST (A:=B) hj0 (by omega)
   by_cases hd:CV B j < CV B (j - 1)
   ·have hl:=PB (CV B j) (CV B (j - 1))
    rw [decide_eq_true hd] at hl
    have g3:((B.map (V.int .i64)).set (0+Int.toNat (j:Int)) (.int .i64 (CV B (j - 1))))[0+Int.toNat ((j:Int) - 1)]?=some (.int .i64 (CV B (j - 1))):=by rw [List.getElem?_set_ne (by omega)];exact g2
    repeat' (first|refine A2 ?_|refine AO ?_|refine AV ?_|refine Ad ?_|refine Dt hl hC K7 ?_|(refine An hE ?_ ?_;decide +kernel)|(refine C1 hE [⟨0,[(0,none),(1,none),(2,none),(3,none),(4,none),(5,none),(6,none),(7,none),(8,none),(9,none),(10,none),(11,none),(12,none),(13,none),(14,none)],some 15,[2,3,4],[[],[2],[4],[2,4],[3,4],[2,3,4]],[]⟩,⟨0,[(16,none)],some 17,[],[[]],[]⟩] ?_ ?_;decide +kernel)|refine By ?_|refine JM ?_ ?_)<;>conv=>whnf
    all_goals
     refine AD [0,1,2,6,7] (j - 1,dW B j) ⟨by omega,hI.step hj0 hj hlt hd⟩ (by show j - 1 < j;omega) ?_
     conv=>whnf
     have e1:((B.map (V.int .i64)).set (0+Int.toNat (j:Int)) (.int .i64 (CV B (j - 1)))).set (0+Int.toNat ((j:Int) - 1)) (.int .i64 (CV B j))=(dW B j).map (V.int .i64):=by
      rw [show 0+Int.toNat (j:Int)=j by omega,show 0+Int.toNat ((j:Int) - 1)=j - 1 by omega]
      unfold dW
      rw [List.map_set,List.map_set]
     rw [e1,show (j:Int) - 1=((j - 1:Nat):Int) by omega]
     try rfl
   ·have hl:=PB (CV B j) (CV B (j - 1))
    rw [decide_eq_false hd] at hl
    conv=>whnf
    repeat' (first|refine A2 ?_|refine AO ?_|refine AV ?_|refine Ad ?_|refine Dt hl hC K7 ?_|(refine An hE ?_ ?_;decide +kernel))<;>conv=>whnf
    refine AD [0,1,2,6] (i+1,B) ⟨by omega,hlt,hI.done (.inr (by omega)) hj⟩ (by show L.length - (i+1) < L.length - i;omega) ?_
    conv=>whnf
    rfl
  ·obtain rfl:j=0:=by omega
   conv=>whnf
   repeat' (first|refine A1 ?_|refine AV ?_|(refine An hE ?_ ?_;decide +kernel))<;>conv=>whnf
   refine AD [0,1,2,6] (i+1,B) ⟨by omega,hlt,hI.done (.inl rfl) hj⟩ (by show L.length - (i+1) < L.length - i;omega) ?_
   conv=>whnf
   rfl
 ·obtain rfl:i=L.length:=by omega
  conv=>whnf
  repeat' refine A1 ?_<;>conv=>whnf
  refine Ap (AH (BP hE ?_))
  conv=>whnf
  refine ⟨rfl,?_,rfl,A,hS,rfl⟩
  simp [DB,Sm,FH,hbl,h0]
  exact ⟨0,by decide,by simp [hbl]⟩
theorem Kc {C:Ctx} {P:Program} {f:FuncId} {z n0:Nat} {els xs0:List V} {R0:V} {Q:List V→Prop} {fop:Operand} {args:List Operand} {K:V→ES→Prop} {σ:ES} (h:HFn P f (.sl 0 0 n0::xs0) [.row z els] [0] (fun r o=>r=R0∧∃els',Q els'∧o=[.row z els'])) (hC:C.P=P) (hb:AB P f=true)
 (p:Nat) (he:BO σ fop args=some (f,.sl p 0 n0::xs0)) (hx:BT xs0) (hR:R0.nr) (hrow:σ.heap[p]?=some (some (.row z els))) (hn:BT els) (hn':∀els',Q els'→BT els')
 (hK:∀els',Q els'→fH (σ.heap.set p (some (.row z els'))) fun h=>K R0 ⟨σ.n,σ.u,h⟩):CallN C fop args f (.sl p 0 n0::xs0) K σ:=by
 refine Fy h hC hb he (fun _=>p) ?_ ?_ ?_ [] ?_ ?_ ?_
 ·intro i j hi hj _
  simp at hi hj
  omega
 ·simp only [Fj]
  exact ⟨.sl p 0 n0,xs0,rfl,by simp [B7],BA hx⟩
 ·intro j o ho
  match j,ho with
  | 0,ho=>
    simp at ho
    subst ho
    exact ⟨_,hrow,els,rfl,BA hn⟩
  | n+1,ho=>simp at ho
 ·intro j hj _
  simp at hj
  subst hj
  simp
 ·intro id hid
  simp at hid
 ·rintro r0 objs' ⟨rfl,els',hq,rfl⟩ _
  have hK:=hK els' hq
  rw [A7] at hK
  refine ⟨r0,[.row z els'],FK r0 hR,rfl,?_,by rw [Mw];exact hK⟩
  intro j o o' ho ho'
  match j,ho,ho' with
  | 0,ho,ho'=>
    simp at ho ho'
    subst ho;subst ho'
    exact ⟨els',rfl,BA (hn' _ hq)⟩
  | n+1,ho,_=>simp at ho
def Jo (L:List Int) (els:List V):Prop:=∃A,UE L A∧els=A.map (V.int .i64)
theorem Jp {L:List Int}:∀els,Jo L els→BT els:=by
 rintro els ⟨A,_,rfl⟩
 exact Bs A
theorem Xh (L:List Int) (h0:0 < L.length) (h12:L.length≤12):HFn Tryz.prog 104 [.sl 0 0 L.length,.int .i64 0,.int .i64 L.length] [.row 1 (L.map (V.int .i64))] [0] (fun r o=>r= .tup []∧∃els',Jo L els'∧o=[.row 1 els']):=
 (ab L h0 h12).mono fun r o ⟨h1,A,h2,h3⟩=>⟨h1,_,⟨A,h2,rfl⟩,h3⟩
set_option maxHeartbeats 8000000 in
theorem jA (L:List Int) (h0:0 < L.length) (h12:L.length≤12) (k:Int):HFn Tryz.prog 94 [.sl 0 0 L.length,.int .i64 0,.int .i64 L.length,.int .i64 k] [.row 1 (L.map (V.int .i64))] [0] (fun r o=>r= .tup []∧∃els',Jo L els'∧o=[.row 1 els']):=by
 have hbl:Nat.blt 0 L.length=true:=by rw [Nat.blt_eq];exact h0
 have hin:=Xh L h0 h12
 refine IJ Tryz.func94 fun C vs hC hE=>?_
 conv=>whnf
 skip
 refine Ab (fun _:Nat=>⟨134,[(0,.sl 0 0 L.length),(1,.int .i64 0),(2,.int .i64 L.length),(3,.int .i64 k),(8,.bool true),(9,.bool true)],[some (.row 1 (L.map (V.int .i64))),some (.hid vs [.sl 0 0 L.length,.int .i64 0,.int .i64 L.length,.int .i64 k])]⟩)
  (fun _=>True) (fun _=>0) 0 hE ?_ trivial ?_
 ·refine AP [0,1,2,3,8,9] ?_
  conv=>whnf
  try rfl
 intro _ _
 conv=>whnf
 repeat' (first|refine A2 ?_|refine AV ?_)<;>conv=>whnf
 refine Kc (Q:=Jo L) hin hC K6 0 rfl ⟨trivial,trivial,trivial⟩ trivial rfl (Bs L) Jp ?_
 intro els' hq
 conv=>whnf
 skip
 refine Ap (AH (BP hE ?_))
 conv=>whnf
 refine ⟨rfl,?_,rfl,els',hq,rfl⟩
 simp [DB,Sm,FH,hbl,h0]
 exact ⟨0,by decide,by simp [hbl]⟩
def ff (n:Nat):Int:=if n=0 then 0 else if n < 2 then 1 else if n < 4 then 2 else if n < 8 then 3 else 4
set_option maxHeartbeats 8000000 in
theorem SU (n:Nat) (hn:n≤12):Fn1 Tryz.prog 95 [.int .u64 n] (fun r=>r= .int .i64 (ff n)):=by
 have h64:Fn1 Tryz.prog 114 [.int .u64 n] (fun r=>r= .int .i64 (ff n)):=by
  obtain rfl|rfl|rfl|rfl|rfl|rfl|rfl|rfl|rfl|rfl|rfl|rfl|rfl:n=0∨n=1∨n=2∨n=3∨n=4∨n=5∨n=6∨n=7∨n=8∨n=9∨n=10∨n=11∨n=12:=by omega
  all_goals
   refine Ax Tryz.func114 fun C hC hE=>?_
   conv=>whnf
   repeat' (first|refine A1 ?_|refine AO ?_|refine ea (by simp only [N1,N2];omega) ?_|refine dt (by decide) ?_|refine AC hE ?_)<;>conv=>whnf
   all_goals exact ⟨rfl,rfl⟩
 refine Ax Tryz.func95 fun C hC hE=>?_
 conv=>whnf
 repeat' (first|refine AN h64 hC Sl ?_|refine AC hE ?_)<;>conv=>whnf
 exact ⟨rfl,rfl⟩
set_option maxHeartbeats 8000000 in
theorem fg (L:List Int) (h0:0 < L.length) (h12:L.length≤12):HFn Tryz.prog 78 [.sl 0 0 L.length] [.row 1 (L.map (V.int .i64))] [0] (fun r o=>r= .tup []∧∃els',Jo L els'∧o=[.row 1 els']):=by
 have hbl:Nat.blt 0 L.length=true:=by rw [Nat.blt_eq];exact h0
 have hp:=jA L h0 h12 (ff L.length)
 have hbits:=SU L.length h12
 refine IJ Tryz.func78 fun C vs hC hE=>?_
 conv=>whnf
 repeat' (first|refine ea (by simp only [N1,N2];omega) ?_|refine AN hbits hC Np ?_|intro hlen)<;>conv=>whnf
 refine Kc (Q:=Jo L) hp hC Nn 0 rfl ⟨trivial,trivial,trivial,trivial⟩ trivial rfl (Bs L) Jp ?_
 intro els' hq
 conv=>whnf
 skip
 refine Ap (AH (BP hE ?_))
 conv=>whnf
 refine ⟨rfl,?_,rfl,els',hq,rfl⟩
 simp [DB,Sm,FH,hbl,h0]
theorem ae:Fn1 Tryz.prog 78 [.lst []] (fun r=>r= .tup []):=by
 have hbits:=SU 0 (by omega)
 have h1:Fn1 Tryz.prog 104 [.lst [],.int .i64 0,.int .i64 0] (fun r=>r= .tup []):=by
  refine Ax Tryz.func104 fun C hC hE=>?_
  conv=>whnf
  repeat' refine AV ?_<;>conv=>whnf
  refine Ab (fun _:Nat=>⟨49,[(0,.lst []),(1,.int .i64 0),(2,.int .i64 0),(6,.int .i64 1)],[]⟩) (fun _=>True) (fun _=>0) 0 hE ?_ trivial ?_
  ·refine AP [0,1,2,6] ?_
   conv=>whnf
   try rfl
  intro _ _
  conv=>whnf
  repeat' (first|refine A1 ?_|refine AC hE ?_)<;>conv=>whnf
  exact ⟨rfl,rfl⟩
 have h2:Fn1 Tryz.prog 94 [.lst [],.int .i64 0,.int .i64 0,.int .i64 0] (fun r=>r= .tup []):=by
  refine Ax Tryz.func94 fun C hC hE=>?_
  conv=>whnf
  skip
  refine Ab (fun _:Nat=>⟨134,[(0,.lst []),(1,.int .i64 0),(2,.int .i64 0),(3,.int .i64 0),(8,.bool true),(9,.bool true)],[]⟩) (fun _=>True) (fun _=>0) 0 hE ?_ trivial ?_
  ·refine AP [0,1,2,3,8,9] ?_
   conv=>whnf
   try rfl
  intro _ _
  conv=>whnf
  repeat' (first|refine A2 ?_|refine AV ?_|refine AN h1 hC K6 ?_|refine AC hE ?_)<;>conv=>whnf
  exact ⟨rfl,rfl⟩
 refine Ax Tryz.func78 fun C hC hE=>?_
 conv=>whnf
 repeat' (first|refine ea (by simp only [N1,N2];omega) ?_|refine AN hbits hC Np ?_|refine AN h2 hC Nn ?_|refine AC hE ?_|intro hlen)<;>conv=>whnf
 exact ⟨rfl,rfl⟩
set_option maxHeartbeats 4000000 in
theorem ag (l:List Int) (h0:0 < l.length) (h12:l.length≤12):HFn Tryz.prog 55 [.fn 79 [.rp [.lst (l.map (V.int .i64))]]] [.row 1 []] [] (fun r o=>r= .sl 0 0 l.length∧∃els',Jo l els'∧o=[.row 1 els']):=by
 have hs:=fg l h0 h12
 have hc:=Xd l (by omega)
 refine IJ Tryz.func55 fun C vs hC hE=>?_
 conv=>whnf
 repeat' refine Ig hc hC Nl 0 rfl (BA ⟨⟨trivial,trivial⟩,trivial⟩) rfl (Bs l) ?_<;>conv=>whnf
 refine Kc (Q:=Jo l) hs hC Nm 0 rfl trivial trivial rfl (Bs l) Jp ?_
 intro els' hq
 conv=>whnf
 skip
 refine Ap (AH (BP hE ?_))
 conv=>whnf
 exact ⟨rfl,rfl,rfl,els',hq,rfl⟩
theorem SV:Fn1 Tryz.prog 77 [.fn 79 [.rp [.lst []]]] (fun r=>r= .lst []):=by
 intro w I vs hlen hv hI
 obtain ⟨v0,rfl⟩:∃v0,vs=[v0]:=by
  match vs,hlen with
  | [a],_=>exact ⟨a,rfl⟩
 obtain ⟨us,rfl,hul,hus⟩:=(Rep.pure (bl:=fun _=>none) _ _ (hv 0 v0 _ rfl rfl)).inv_fn
 obtain ⟨p,rfl⟩:∃p,us=[p]:=by
  match us,hul with
  | [a],_=>exact ⟨a,rfl⟩
 obtain ⟨b,off,u,hIb,rfl,hc,h1,hr⟩:=(hus 0 p _ rfl rfl).inv_rp
 have hu:=(Rep.pure (bl:=fun _=>none) _ _ (hr 0 _ rfl)).inv_lst
 have hbox:VBox w b off [] (u 0):=by
  refine ⟨hI b hIb,hc 0 (by simp),.inl ⟨rfl,?_⟩⟩
  rcases hu.is with ⟨_,a,cap,h3⟩|⟨b',o,cap,z,uu,hI',g1,g2,g3,g4,g5,g6,g7⟩
  ·exact ⟨a,cap,h3⟩
  ·exact ⟨_,cap,g3⟩
 refine (Jm b off [] w (u 0) hbox (by simp)).mono ?_
 rintro e w' ⟨v,rfl,hrow,hbel⟩
 refine ⟨v,.lst [],I,rfl,rfl,?_,fun b hb=>⟨Nat.lt_of_lt_of_le (hI b hb) hbel.size,.inl hb⟩,Ih hbel⟩
 rcases id hrow.2 with ⟨rfl,h0⟩|⟨g,cap,cur,rfl,hg,hb,q1,q2,q3,q4⟩
 ·exact .lnil _ _
 ·exact .lnil _ _
theorem NQ:Fn1 Tryz.prog 55 [.fn 79 [.rp [.lst []]]] (fun r=>r= .lst []):=by
 refine Ax Tryz.func55 fun C hC hE=>?_
 conv=>whnf
 repeat' (first|refine AN SV hC Nl ?_|refine AN ae hC Nm ?_|refine AC hE ?_)<;>conv=>whnf
 exact ⟨rfl,rfl⟩
inductive Ex where
 | mk (k t:Int) (ps:List Ex)
def Ex.kind:Ex→Int|.mk k _ _=>k
def Ex.type:Ex→Int|.mk _ t _=>t
def Ex.parts:Ex→List Ex|.mk _ _ ps=>ps
mutual
def ga:Ex→V
 | .mk k t ps=>.agg [.int .i64 k,.int .i64 t,.lst (KO ps)]
def KO:List Ex→List V
 | []=>[]
 | x::xs=>ga x::KO xs
end
def Ah (x:Ex):V:=.agg [.int .i64 x.kind,.int .i64 x.type,.lst (KO x.parts)]
theorem ZO (x:Ex):ga x=Ah x:=by cases x;rw [ga];rfl
theorem Mj:∀ps,KO ps=ps.map Ah
 | []=>by simp [KO]
 | x::xs=>by simp [KO,Mj xs,ZO]
theorem DF (k t:Int) (ps:List Ex):Ah (.mk k t ps)= .agg [.int .i64 k,.int .i64 t,.lst (ps.map Ah)]:=by rw [←Mj];rfl
mutual
def El:Ex→Nat
 | .mk _ _ ps=>Ay ps+4
def Ay:List Ex→Nat
 | []=>0
 | x::xs=>El x+Ay xs
end
theorem Bp:∀ps,Ay ps=(ps.map El).sum
 | []=>by simp [Ay]
 | x::xs=>by simp [Ay,Bp xs]
theorem CQ (k t:Int) (ps:List Ex):El (.mk k t ps)=Ay ps+4:=by rw [El]
theorem FM {l:List Ex} {x:Ex} (h:x∈l):El x≤Ay l:=by rw [Bp];exact VU El l x h
theorem CZ (x:Ex):4≤El x:=by cases x;rw [CQ];omega
theorem Ec (l:List Ex):l.length≤Ay l:=by rw [Bp];exact Ol El (fun x=>by have:=CZ x;omega) l
theorem Rk {l:List Ex} {k:Nat} (h:k < l.length):∃a t ps,l[k]?=some (.mk a t ps)∧(l.map Ah)[k]?=some (.agg [.int .i64 a,.int .i64 t,.lst (ps.map Ah)]):=by
 have hx:l[k]?=some l[k]:=List.getElem?_eq_getElem h
 cases hn:l[k] with
 | mk a t ps=>rw [hn] at hx;exact ⟨a,t,ps,hx,by rw [List.getElem?_map,hx,Option.map_some,DF]⟩
theorem Wp (x:Ex):(Ah x).cells.length=3:=by cases x;rw [DF];rfl
theorem Bh (x:Ex):(Ah x).nr:=by cases x;rw [DF];exact ⟨trivial,trivial,trivial,trivial⟩
theorem Gb (l:List Ex):BT (l.map Ah):=by
 rw [PW]
 intro x hx
 obtain ⟨q,_,rfl⟩:=List.mem_map.1 hx
 exact Bh q
def Ca (k t:Int) (n:Nat):Bool:=
 decide (k=1∧0 < n) || decide (k≠1∧t≠0) || decide ((k=2∨k=3)∧n=1) || decide (k=3∧n=0) || decide (4≤k∧n≠1)
mutual
def Mk:Ex→Int
 | .mk k t ps=>if k < 1∨6 < k then 3 else if Ca k t ps.length=true then 4 else if (k=2∨k=3)∧(ps.any fun p=>decide (p.kind=k))=true then 4 else if t < 0∨8≤t then 2 else LE ps
def LE:List Ex→Int
 | []=>0
 | x::xs=>if Mk x≠0 then Mk x else LE xs
end
section
variable {k t:Int} {ps:List Ex}
theorem cZ (h:k < 1∨6 < k):Mk (.mk k t ps)=3:=by rw [Mk,if_pos h]
theorem ca (h:¬(k < 1∨6 < k)) (hf:Ca k t ps.length=true):Mk (.mk k t ps)=4:=by rw [Mk,if_neg h,if_pos hf]
theorem cb (h:¬(k < 1∨6 < k)) (hf:Ca k t ps.length=false) (hs:(k=2∨k=3)∧(ps.any fun p=>decide (p.kind=k))=true):Mk (.mk k t ps)=4:=by rw [Mk,if_neg h,if_neg (by simp [hf]),if_pos hs]
theorem ZP (h:¬(k < 1∨6 < k)) (hf:Ca k t ps.length=false) (hs:¬((k=2∨k=3)∧(ps.any fun p=>decide (p.kind=k))=true)) (ht:t < 0∨8≤t):Mk (.mk k t ps)=2:=by
 rw [Mk,if_neg h,if_neg (by simp [hf]),if_neg hs,if_pos ht]
theorem ZQ (h:¬(k < 1∨6 < k)) (hf:Ca k t ps.length=false) (hs:¬((k=2∨k=3)∧(ps.any fun p=>decide (p.kind=k))=true)) (ht:¬(t < 0∨8≤t)):Mk (.mk k t ps)=LE ps:=by
 rw [Mk,if_neg h,if_neg (by simp [hf]),if_neg hs,if_neg ht]
end
theorem Wq {l:List Ex} {k:Nat} {x:Ex} (hx:l[k]?=some x):LE (l.drop k)=if Mk x≠0 then Mk x else LE (l.drop (k+1)):=by
 obtain ⟨hlt,rfl⟩:=List.getElem?_eq_some_iff.1 hx
 rw [List.drop_eq_getElem_cons hlt,LE]
theorem fA (p:Ex) (k t:Int) (ps:List V):Fn1 Tryz.prog 72 [Ah p,.rp [.int .i64 k,.int .i64 t,.lst ps]] (fun r=>r= .bool (decide (p.kind=k))):=by
 cases p with
 | mk a b qs=>
   rw [DF]
   refine Ax Tryz.func72 fun C hC hE=>?_
   conv=>whnf
   repeat' (first|refine GV (fun h=>?_) (fun h=>?_)|refine AC hE ?_)<;>conv=>whnf
   all_goals exact ⟨rfl,by congr 1;first|exact (decide_eq_true (by assumption)).symm|exact (decide_eq_false (by assumption)).symm⟩
theorem Pu (l:List Ex) (h:FuncId) (caps:List V) (p:Ex→Bool) (hb:AB Tryz.prog h=true) (hc:Fa caps=true) (hp:∀a∈l,Fn1 Tryz.prog h (Ah a::caps) (fun r=>r= .bool (p a))):
 Fn1 Tryz.prog 90 [.lst (l.map Ah),.fn h caps] (fun r=>r= .int .i64 (GH p l)):=by
 refine Ax Tryz.func90 fun C hC hE=>?_
 conv=>whnf
 intro hl
 conv=>whnf
 refine Ab (fun k:Nat=>⟨19,[(0,.lst (l.map Ah)),(1,.fn h caps),(7,.int .i64 (l.map Ah).length),(8,.int .i64 k)],[]⟩) (fun k=>k≤l.length∧∀j < k,∀x,l[j]?=some x→p x=false) (fun k=>l.length - k) 0 hE ?_ ?_ ?_
 ·exact AP [0,1,7,8] rfl
 ·exact ⟨Nat.zero_le _,fun j hj=>by omega⟩
 intro k hkj
 obtain ⟨hk,hj⟩:=hkj
 have hlm:(l.map Ah).length=l.length:=by simp
 by_cases hlt:k < l.length
 ·obtain ⟨x,hx⟩:∃x,l[k]?=some x:=⟨_,List.getElem?_eq_getElem hlt⟩
  have hpx:=hp x (List.mem_of_getElem? hx)
  conv=>whnf
  repeat' (first|refine A2 ?_|refine AO ?_|refine AV ?_|refine Hk ?_|(refine CX hpx hC hb ?_ ?_ ?_;kernel_rfl;exact GG (by kernel_rfl) hc)|refine br (fun h=>?_) (fun h=>?_)|refine AC hE ?_)<;>conv=>whnf
  ·exact ⟨rfl,by rw [D7 hx (by assumption) hj]⟩
  ·refine AD [0,1,7,8] (k+1) ⟨hlt,?_⟩ (by omega) rfl
   intro j hjk y hy
   by_cases e:j=k
   ·subst e;rw [hx] at hy;cases hy;assumption
   ·exact hj j (by omega) y hy
 ·conv=>whnf
  repeat' (first|refine A1 ?_|refine AC hE ?_)<;>conv=>whnf
  exact ⟨rfl,by rw [DW (fun x hx=>by obtain ⟨j,hj'⟩:=List.mem_iff_getElem?.1 hx;exact hj j (by have:=(List.getElem?_eq_some_iff.1 hj').1;omega) x hj')]⟩
theorem LF (l:List Ex) (h:FuncId) (caps:List V) (p:Ex→Bool) (hb:AB Tryz.prog h=true) (hc:Fa caps=true) (hp:∀a∈l,Fn1 Tryz.prog h (Ah a::caps) (fun r=>r= .bool (p a))):
 Fn1 Tryz.prog 71 [.lst (l.map Ah),.fn h caps] (fun r=>r= .bool (l.any p)):=by
 have hi:=Pu l h caps p hb hc hp
 have ha:=D8 p l
 refine Ax Tryz.func71 fun C hC hE=>?_
 conv=>whnf
 repeat' (first|(refine CX hi hC Us ?_ ?_ ?_;kernel_rfl;exact KA rfl hc)|refine GV (fun h=>?_) (fun h=>?_)|refine AC hE ?_)<;>conv=>whnf
 all_goals exact ⟨rfl,by rw [←ha];congr 1;first|exact (decide_eq_true (by assumption)).symm|exact (decide_eq_false (by assumption)).symm⟩
set_option maxHeartbeats 8000000 in
theorem Td:∀(N:Nat) (k t:Int) (ps:List Ex),Ay ps≤N→Fn1 Tryz.prog 42 [.agg [.int .i64 k,.int .i64 t,.lst (ps.map Ah)]] (fun r=>r= .int .i64 (Mk (.mk k t ps))):=by
 intro N
 induction N using Nat.strongRecOn with
 | _ N ih=>
   intro k t ps hps
   have hlm:(ps.map Ah).length=ps.length:=by simp
   have hcf:=LF ps 72 [.rp [.int .i64 k,.int .i64 t,.lst (ps.map Ah)]] (fun p=>decide (p.kind=k)) Uk rfl (fun q _=>fA q k t _)
   obtain ⟨b,hb⟩:∃b,(ps.any fun p=>decide (p.kind=k))=b:=⟨_,rfl⟩
   rw [hb] at hcf
   refine Ax Tryz.func42 fun C hC hE=>?_
   conv=>whnf
   repeat' (first|refine A2 ?_|refine A1 ?_|(refine AY (AK 0 (z:=3) (els:=[.agg [.int .i64 k,.int .i64 t,.lst (ps.map Ah)]]) rfl ?_ (AH ?_));exact ⟨⟨trivial,trivial,trivial,trivial⟩,trivial⟩)|refine AN hcf hC Uj ?_|refine GV (fun h=>?_) (fun h=>?_)|refine br (fun h=>?_) (fun h=>?_)|refine AC hE ?_|intro hlen)<;>conv=>whnf
   all_goals try (first
    | exact ⟨rfl,by rw [cZ (by omega)]⟩
    | exact ⟨rfl,by rw [ca (by omega) (by unfold Ca;simp only [Bool.or_eq_true,decide_eq_true_eq];omega)]⟩
    | exact ⟨rfl,by rw [cb (by omega) (by unfold Ca;simp only [Bool.or_eq_false_iff,decide_eq_false_iff_not];omega) ⟨by omega,by rw [hb];assumption⟩]⟩
    | exact ⟨rfl,by rw [ZP (by omega) (by unfold Ca;simp only [Bool.or_eq_false_iff,decide_eq_false_iff_not];omega) (fun h=>by first|omega|(rw [hb] at h;simp_all;done)) (by omega)]⟩)
   all_goals
    have h1:¬(k < 1∨6 < k):=by omega
    have h2:Ca k t ps.length=false:=by unfold Ca;simp only [Bool.or_eq_false_iff,decide_eq_false_iff_not];omega
    have h3:¬((k=2∨k=3)∧(ps.any fun p=>decide (p.kind=k))=true):=fun h=>by first|omega|(rw [hb] at h;simp_all;done)
    have h4:¬(t < 0∨8≤t):=by omega
    have he:=ZQ h1 h2 h3 h4
    refine Ab (fun j:Nat=>⟨93,[(1,.rp [.int .i64 k,.int .i64 t,.lst (ps.map Ah)]),(81,.lst (ps.map Ah)),(82,.int .i64 (ps.map Ah).length),(83,.int .i64 j)],[]⟩) (fun j=>j≤ps.length∧LE ps=LE (ps.drop j)) (fun j=>ps.length - j) 0 hE ?_ ⟨Nat.zero_le _,rfl⟩ ?_
    ·first
      | exact EQ [1,81,82,83] [] rfl
      | exact AK 0 (z:=3) (els:=[.agg [.int .i64 k,.int .i64 t,.lst (ps.map Ah)]]) rfl ⟨⟨trivial,trivial,trivial,trivial⟩,trivial⟩ (EQ [1,81,82,83] [] rfl)
    intro j hj
    obtain ⟨hj,hI⟩:=hj
    by_cases hlt:j < ps.length
    ·obtain ⟨a,u,qs,hx,hx'⟩:=Rk hlt
     have hp2:=FM (List.mem_of_getElem? hx)
     rw [CQ] at hp2
     have ih':=ih (Ay qs) (by omega) a u qs (Nat.le_refl _)
     have hst:=Wq hx
     conv=>whnf
     repeat' (first|refine A2 ?_|refine AO ?_|refine AV ?_|refine Ad ?_|refine AN ih' hC Nh ?_|refine GV (fun h=>?_) (fun h=>?_)|refine AC hE ?_)<;>conv=>whnf
     all_goals first
      | exact ⟨rfl,by rw [he,hI,hst,if_pos (by assumption)]⟩
      | exact AM [1,81,82,83] [0] (j+1) ⟨hlt,by rw [hI,hst,if_neg (by simp;omega)]⟩ (by omega) rfl
    ·rw [List.drop_eq_nil_of_le (by omega),LE] at hI
     conv=>whnf
     repeat' (first|refine A1 ?_|refine AC hE ?_)<;>conv=>whnf
     exact ⟨rfl,by rw [he,hI]⟩
end
section
def Eq (w:List Nat):Prop:=∀c∈w,c < 8
end
section
open Go.RowKit
def A8 {α:Type} [DecidableEq α] (a:α):List (α×Int)→Option Int
 | []=>none
 | q::L=>if a=q.1 then some q.2 else A8 a L
structure KeyOk {α:Type} [DecidableEq α] (P:Program) (t:TypeId) (kV:α→Value) (kA:α→V):Prop where
 map:∃kt vt,P.underlying t=some (.map kt vt)∧(∀w,(zeroValue vt).run P w= .ok (.int .i64 0) w)∧(∀e a w,(Instr.checkKey e 10000 kt (kV a)).run P w= .ok () w)∧
  ∀a w (L:List (α×Int)) (es:List MapEntry),es.map (fun e=>(e.key,e.val))=L.map (fun p=>(kV p.1,Value.int .i64 p.2))→∃r,(Instr.findKey kt (kV a) es).run P w= .ok r w∧r.map (·.2)=((A8 a L)).map (Value.int .i64)
 rep:∀w I bl v a,Rep w I bl v (kA a)→v=kV a
theorem D9 {α:Type} [DecidableEq α] (a:α) (q:α×Int) (L:List (α×Int)):A8 a (q::L)=if a=q.1 then some q.2 else A8 a L:=rfl
theorem Hb {α:Type} [DecidableEq α] (a:α) (L M:List (α×Int)):A8 a (L++M)=((A8 a L)).or ((A8 a M)):=by
 induction L with
 | nil=>simp [A8]
 | cons q L ih=>
   rw [List.cons_append,D9,D9,ih]
   split<;>simp
theorem Wx {P:Program} {α:Type} [DecidableEq α] {kt:TypeId} {kV:α→Value} (heq:∀a b w,(Op.equal kt (kV a) (kV b)).run P w= .ok (decide (a=b)) w) (a:α) (w:World):∀(L:List (α×Int)) (es:List MapEntry) (i:Nat),
 es.map (fun e=>(e.key,e.val))=L.map (fun p=>(kV p.1,Value.int .i64 p.2))→∃r,(Instr.findAsking kt (kV a) es i).run P w= .ok r w∧r.map (·.2)=((A8 a L)).map (Value.int .i64)
 | [],[],i,_=>⟨none,by simp [Instr.findAsking],by simp [A8]⟩
 | [],_::_,i,h=>by simp at h
 | _::_,[],i,h=>by simp at h
 | q::L,e::es,i,h=>by
   simp only [List.map_cons,List.cons.injEq,Prod.mk.injEq] at h
   obtain ⟨⟨h1,h2⟩,h3⟩:=h
   unfold Instr.findAsking
   rw [h1,D9]
   by_cases hq:a=q.1
   ·exact ⟨some (i,e.val),by simp [heq,hq,Result.andThen],by simp [hq,h2]⟩
   ·obtain ⟨r,h4,h5⟩:=Wx heq a w L es (i+1) h3
    exact ⟨r,by simp [heq,hq,Result.andThen,h4],by simp [hq,h5]⟩
theorem Ze {α:Type} [DecidableEq α] {d:TypeDesc} {kV:α→Value} (heq:∀a b,Instr.sameNow d (kV a) (kV b)=some (decide (a=b))) (a:α):∀(L:List (α×Int)) (es:List MapEntry) (i:Nat),
 es.map (fun e=>(e.key,e.val))=L.map (fun p=>(kV p.1,Value.int .i64 p.2))→∃r,Instr.findNow d (kV a) es i=some r∧r.map (·.2)=((A8 a L)).map (Value.int .i64)
 | [],[],i,_=>⟨none,by simp [Instr.findNow],by simp [A8]⟩
 | [],_::_,i,h=>by simp at h
 | _::_,[],i,h=>by simp at h
 | q::L,e::es,i,h=>by
   simp only [List.map_cons,List.cons.injEq,Prod.mk.injEq] at h
   obtain ⟨⟨h1,h2⟩,h3⟩:=h
   unfold Instr.findNow
   rw [h1,D9,heq]
   by_cases hq:a=q.1
   ·exact ⟨some (i,e.val),by simp [hq],by simp [hq,h2]⟩
   ·obtain ⟨r,h4,h5⟩:=Ze heq a L es (i+1) h3
    exact ⟨r,by simp [hq,h4],by simp [hq,h5]⟩
theorem Hc {P:Program} {α:Type} [DecidableEq α] {kt:TypeId} {d:TypeDesc} {kV:α→Value} (hd:P.underlying kt=some d) (heq:∀a b,Instr.sameNow d (kV a) (kV b)=some (decide (a=b))) (a:α) (w:World) (L:List (α×Int)) (es:List MapEntry)
 (h:es.map (fun e=>(e.key,e.val))=L.map (fun p=>(kV p.1,Value.int .i64 p.2))):∃r,(Instr.findKey kt (kV a) es).run P w= .ok r w∧r.map (·.2)=((A8 a L)).map (Value.int .i64):=by
 obtain ⟨r,h1,h2⟩:=Ze heq a L es 0 h
 exact ⟨r,MapKept.run_findKey hd h1,h2⟩
def Jv {α:Type} (kV:α→Value) (L:List (α×Int)):Ob:=.mp (L.map fun p=>(kV p.1,Value.int .i64 p.2))
section
variable {C:Ctx} {α:Type} [DecidableEq α] {t:TypeId} {kV:α→Value} {kA:α→V} {K:V→ES→Prop} {σ:ES}
theorem Mp {a:Act} {w:World} {I:Nat→Prop} {bl:Nat→Option BI} (hp:RP C σ.st a w I bl) {m:Operand} {id:Nat} {es:List (Value×Value)} (hm:σ.val m= .it id) (ho:σ.heap[id]?=some (some (.mp es))):
 ∃b z arr clock,bl id=some ⟨some b,1,z⟩∧w.heap[b]?=some (.map arr clock)∧arr.toList.map (fun e=>(e.key,e.val))=es∧a.eval m= .map (some b):=by
 have hv:=hp.val m
 rw [Ao,hm] at hv
 obtain ⟨b0,base0,z0,hbl0,hv⟩:=hv.inv_it
 obtain ⟨b,_,z,t,hbl,hg,he,_⟩:=hp.heap.obj id _ ho
 rw [hbl] at hbl0
 simp only [Option.some.injEq,BI.mk.injEq] at hbl0
 obtain ⟨rfl,rfl,rfl⟩:=hbl0
 exact ⟨b,z,t.1,t.2,hbl,hg,he,hv⟩
theorem Mq (h:ML σ (.mp []) fun id σ=>K (.it id) σ):OpN C (.makeMap t none) K σ:=
 ⟨fun o ho=>Ak fun a w I bl hp=>⟨.map (some w.heap.size),w.alloc (.map #[] 0),_,_,by
   simp [execOp,ho,Instr.makeMap,newObj,Sem.run],DH (C7 h),(hp.newObB (base:=1) (.map #[] 0) (.mp []) 0 ⟨w.heap.size,0,0,(#[],0),AT _ _ _,heap_alloc_new w _,rfl,trivial⟩).relx (.it _ _ 1 0 (AT _ _ _))⟩⟩
theorem Mr (hk:KeyOk C.P t kV kA) {w:World} {b:Nat} {arr:Array MapEntry} {clock:Nat} {L:List (α×Int)} (hg:w.heap[b]?=some (.map arr clock)) (he:arr.toList.map (fun e=>(e.key,e.val))=L.map (fun p=>(kV p.1,Value.int .i64 p.2))) (x:α) (ok:Bool):
 (Instr.lookup t (.map (some b)) (kV x) ok).run C.P w= .ok (if ok then .tuple #[.int .i64 (((A8 x L)).getD 0),.bool ((A8 x L)).isSome] else .int .i64 (((A8 x L)).getD 0)) w:=by
 obtain ⟨kt,vt,h1,h2,h3,h4⟩:=hk.map
 obtain ⟨r,h5,h6⟩:=h4 x w L arr.toList he
 unfold Instr.lookup
 cases hl:(A8 x L) with
 | none=>
   rw [hl] at h6
   obtain rfl:r=none:=by simpa using h6
   simp [run_underlying h1,MapKept.run_getObj_map hg,h3,h5,h2,Result.andThen]
 | some n=>
   rw [hl] at h6
   obtain ⟨i,rfl⟩:∃i,r=some (i,.int .i64 n):=by
    cases r with
    | none=>simp at h6
    | some r=>obtain ⟨i,v⟩:=r;simp at h6;subst h6;exact ⟨i,rfl⟩
   simp [run_underlying h1,MapKept.run_getObj_map hg,h3,h5,Result.andThen]
theorem Gc (hk:KeyOk C.P t kV kA) {m k:Operand} (id:Nat) (L:List (α×Int)) (x:α) (n:Int) (hm:σ.val m= .it id) (hx:σ.val k=kA x) (ho:σ.heap[id]?=some (some (Jv kV L))) (hl:(A8 x L)=some n)
 (h:K (.tup [.int .i64 n,.bool true]) σ):OpN C (.lookup t m k true) K σ:=
 ⟨fun o ho'=>AS _ (DH h) fun a w I bl hp=>by
   obtain ⟨b,z,arr,clock,_,hg,he,hv⟩:=Mp hp hm ho
   have hkv:=hp.val k
   rw [Ao,hx] at hkv
   have hr:=Mr hk hg he x true
   rw [hl] at hr
   refine ⟨_,by simp [execOp,ho',hv,hk.rep _ _ _ _ _ hkv,hr],.pure _ _ (.tup [.int .i64 n,.bool true] [.int .i64 n,.bool true] rfl fun i v c hv hc=>?_)⟩
   match i with
   | 0=>simp at hv hc;subst hv;subst hc;exact .int _ _
   | 1=>simp at hv hc;subst hv;subst hc;exact .bool _
   | i+2=>simp at hv⟩
theorem Gd (hk:KeyOk C.P t kV kA) {m k:Operand} (id:Nat) (L:List (α×Int)) (x:α) (hm:σ.val m= .it id) (hx:σ.val k=kA x) (ho:σ.heap[id]?=some (some (Jv kV L))) (hl:(A8 x L)=none)
 (h:K (.tup [.int .i64 0,.bool false]) σ):OpN C (.lookup t m k true) K σ:=
 ⟨fun o ho'=>AS _ (DH h) fun a w I bl hp=>by
   obtain ⟨b,z,arr,clock,_,hg,he,hv⟩:=Mp hp hm ho
   have hkv:=hp.val k
   rw [Ao,hx] at hkv
   have hr:=Mr hk hg he x true
   rw [hl] at hr
   refine ⟨_,by simp [execOp,ho',hv,hk.rep _ _ _ _ _ hkv,hr],.pure _ _ (.tup [.int .i64 0,.bool false] [.int .i64 0,.bool false] rfl fun i v c hv hc=>?_)⟩
   match i with
   | 0=>simp at hv hc;subst hv;subst hc;exact .int _ _
   | 1=>simp at hv hc;subst hv;subst hc;exact .bool _
   | i+2=>simp at hv⟩
theorem Ms (hk:KeyOk C.P t kV kA) {m k:Operand} (id:Nat) (L:List (α×Int)) (x:α) (n:Int) (hm:σ.val m= .it id) (hx:σ.val k=kA x) (ho:σ.heap[id]?=some (some (Jv kV L))) (hl:((A8 x L)).getD 0=n)
 (h:K (.int .i64 n) σ):OpN C (.lookup t m k false) K σ:=
 ⟨fun o ho'=>AS _ (DH h) fun a w I bl hp=>by
   obtain ⟨b,z,arr,clock,_,hg,he,hv⟩:=Mp hp hm ho
   have hkv:=hp.val k
   rw [Ao,hx] at hkv
   have hr:=Mr hk hg he x false
   rw [hl] at hr
   exact ⟨_,by simp [execOp,ho',hv,hk.rep _ _ _ _ _ hkv,hr],.pure _ _ (.int _ _)⟩⟩
theorem cr (hk:KeyOk C.P t kV kA) {w:World} {b:Nat} {arr:Array MapEntry} {clock:Nat} {L:List (α×Int)} (hg:w.heap[b]?=some (.map arr clock)) (he:arr.toList.map (fun e=>(e.key,e.val))=L.map (fun p=>(kV p.1,Value.int .i64 p.2))) (x:α) (v:Value) (hl:(A8 x L)=none):
 (Instr.mapUpdate t (.map (some b)) (kV x) v).run C.P w= .ok () (w.putObj b (.map (arr.push { key:=kV x,val:=v,born:=clock}) (clock+1))):=by
 obtain ⟨kt,vt,h1,h2,h3,h4⟩:=hk.map
 obtain ⟨r,h5,h6⟩:=h4 x w L arr.toList he
 rw [hl] at h6
 obtain rfl:r=none:=by simpa using h6
 unfold Instr.mapUpdate
 simp [run_underlying h1,MapKept.run_getObj_map hg,h3,h5,MapKept.run_setObj_map _ hg,Result.andThen,World.putObj]
theorem Zf (hk:KeyOk C.P t kV kA) {m k y:Operand} (id:Nat) (L:List (α×Int)) (x:α) (n:Int) (hm:σ.val m= .it id) (hx:σ.val k=kA x) (hy:σ.val y= .int .i64 n) (ho:σ.heap[id]?=some (some (Jv kV L))) (hl:(A8 x L)=none)
 (h:K .any ⟨σ.n,σ.u,σ.heap.set id (some (Jv kV (L++[(x,n)])))⟩) {o:Oper} (ho':o.op= .mapUpdate t m k y∨o.op= .insert t m k y):Bc C o σ.st (Fb K):=
 OD fun a w I bl hp=>by
  obtain ⟨b,z,arr,clock,hbl,hg,he,hv⟩:=Mp hp hm ho
  have hkv:=hp.val k
  rw [Ao,hx] at hkv
  have hyv:=hp.val y
  rw [Ao,hy] at hyv
  have hr:=cr hk hg he x (.int .i64 n) hl
  refine ⟨_,_,?_,DH h,(hp.setOb hbl hg (by simp) (Jv kV (L++[(x,n)])) ⟨b,0,z,(arr.push { key:=kV x,val:=.int .i64 n,born:=clock},clock+1),hbl,World.putObj_heap_same (hp.heap.own id _ b hbl rfl).1,?_,trivial⟩).rel⟩
  ·rcases ho' with ho'|ho'<;>simp [execOp,ho',hv,hk.rep _ _ _ _ _ hkv,hyv.inv_int,hr]
  ·simp [he]
theorem LX (hk:KeyOk C.P t kV kA) {m k y:Operand} (id:Nat) (L:List (α×Int)) (x:α) (n:Int) (hm:σ.val m= .it id) (hx:σ.val k=kA x) (hy:σ.val y= .int .i64 n) (ho:σ.heap[id]?=some (some (Jv kV L))) (hl:(A8 x L)=none)
 (h:fH (σ.heap.set id (some (Jv kV (L++[(x,n)])))) fun hh=>K .any ⟨σ.n,σ.u,hh⟩):OpN C (.mapUpdate t m k y) K σ:=
 ⟨fun _ ho'=>Zf hk id L x n hm hx hy ho hl (by rw [A7] at h;exact h) (.inl ho')⟩
theorem cu (hk:KeyOk C.P t kV kA) {m k y:Operand} (id:Nat) (L:List (α×Int)) (x:α) (n:Int) (hm:σ.val m= .it id) (hx:σ.val k=kA x) (hy:σ.val y= .int .i64 n) (ho:σ.heap[id]?=some (some (Jv kV L))) (hl:(A8 x L)=none)
 (h:fH (σ.heap.set id (some (Jv kV (L++[(x,n)])))) fun hh=>K .any ⟨σ.n,σ.u,hh⟩):OpN C (.insert t m k y) K σ:=
 ⟨fun _ ho'=>Zf hk id L x n hm hx hy ho hl (by rw [A7] at h;exact h) (.inr ho')⟩
end
theorem Va {C:Ctx} {α:Type} {t:TypeId} {kV:α→Value} {K:V→ES→Prop} {σ:ES} {m:Operand} (id:Nat) (L:List (α×Int)) (hm:σ.val m= .it id) (ho:σ.heap[id]?=some (some (Jv kV L))) (hu:∃kt vt,C.P.underlying t=some (.map kt vt))
 (h:K (.int .i64 (L.length:Nat)) σ):OpN C (.call { callee:=.builtin .len,args:=#[m],argTypes:=#[t]}) K σ:=
 ⟨fun o ho'=>AS _ (DH h) fun a w I bl hp=>by
   obtain ⟨b,z,arr,clock,_,hg,he,hv⟩:=Mp hp hm ho
   obtain ⟨kt,vt,hu⟩:=hu
   have hs:arr.size=L.length:=by have:=congrArg List.length he;simpa using this
   refine ⟨.int .i64 (L.length:Nat),?_,.pure _ _ (.int _ _)⟩
   simp [execOp,ho',resolve,invoke,builtin,hv,Builtin.len_,run_underlying hu,MapKept.run_getObj_map hg,hs,goInt]⟩
end
end Go.Proofs.YtkaiffheakalmaaGreatDoor
