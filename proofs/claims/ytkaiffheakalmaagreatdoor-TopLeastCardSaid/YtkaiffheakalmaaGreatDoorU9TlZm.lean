/- Copied, stripped. No conditions. -/
import Derived.Test.YtkaiffheakalmaaGreatDoorU9TlZk
import Derived.Test.YtkaiffheakalmaaGreatDoorU9TlZi
import Derived.Test.YtkaiffheakalmaaGreatDoorU9TlZa
import Derived.Test.YtkaiffheakalmaaGreatDoorU9Data
import Derived.Test.YtkaiffheakalmaaGreatDoorU9TlZb
import Derived.Test.YtkaiffheakalmaaGreatDoorU9TlZh
import Derived.Test.YtkaiffheakalmaaGreatDoorU9TlZl
import Derived.Test.YtkaiffheakalmaaGreatDoorU9TlZd
import Derived.Test.YtkaiffheakalmaaGreatDoorU9TlZj
set_option linter.unusedSimpArgs false
set_option linter.unusedVariables false
set_option maxRecDepth 100000
namespace Go.Proofs.YtkaiffheakalmaaGreatDoor
open Go.RowKit
def Xn (T:List (List Int)) (F:List Bool) (x:Nat) (w:List Nat):Bool:=DW F (w.foldl (Dh T) x)
def VF (T:List (List Int)) (F:List Bool) (C:List Int):Bool:=
  (List.range T.length).all fun i=>(List.range 8).all fun c=>decide (Dh T i c < T.length)
def dm (T:List (List Int)) (F:List Bool) (C:List Int):Bool:=
  (List.range T.length).all fun i=>(List.range T.length).all fun j=>!decide (ci C i=ci C j) || ((DW F i==DW F j)&&(List.range 8).all fun c=>decide (ci C (Dh T i c)=ci C (Dh T j c)))
def dn (T:List (List Int)) (F:List Bool) (C:List Int):Bool:=
  (List.range T.length).all fun i=>!decide (ci C i= -1) || (!DW F i&&(List.range 8).all fun c=>decide (ci C (Dh T i c)= -1))
def gl (T:List (List Int)) (F:List Bool) (Ws:List (List Nat)) (S:List Nat):Bool:=
  (Ws.all fun w=>w.all fun c=>decide (c < 8))&&S.all fun s=>decide (s < T.length)&&Ws.any fun w=>Xn T F s w
def cf (T:List (List Int)) (F:List Bool) (Ws:List (List Nat)) (S:List Nat):Bool:=
  (List.range S.length).all fun i=>(List.range S.length).all fun j=>decide (i=j) || Ws.any fun w=>Xn T F (S.getD i 0) w != Xn T F (S.getD j 0) w
def gu (T:List (List Int)) (C:List Int) (S:List Nat) (R:List (List Int)):Bool:=
  decide (R.length=S.length)&&(R.all fun r=>decide (r.length=8))&&(List.range (8*S.length)).all fun p=>
    (decide (R.flatten.getD p 0= -1)&&decide (ci C (Dh T (S.getD (p / 8) 0) (p % 8))= -1)) ||
    (decide (0≤R.flatten.getD p 0)&&decide ((R.flatten.getD p 0).toNat < S.length)&&decide (ci C (S.getD (R.flatten.getD p 0).toNat 0)=ci C (Dh T (S.getD (p / 8) 0) (p % 8))))
def gv (S:List Nat) (R:List (List Int)):Bool:=
  (List.range S.length).all fun j=>decide (j=0) || (List.range (8*S.length)).any fun p=>decide (p / 8 < j)&&decide (R.flatten.getD p 0=(j:Int))&&(List.range p).all fun q=>decide (R.flatten.getD q 0 < (j:Int))
def On (T:List (List Int)) (F:List Bool) (C:List Int) (Ws:List (List Nat)) (S:List Nat) (R:List (List Int)) (G:List Bool):Bool:=
  VF T F C&&dm T F C&&dn T F C&&gl T F Ws S&&cf T F Ws S&&gu T C S R&&gv S R&&decide (S.getD 0 1=0)&&decide (0 < S.length)&&decide (G=S.map (DW F))
section
variable {T:List (List Int)} {F:List Bool} {C:List Int} {Ws:List (List Nat)} {S:List Nat} {R:List (List Int)} {G:List Bool}
theorem Zz (hA:VF T F C=true) (hB:dm T F C=true) {i j:Nat} (hi:i < T.length) (hj:j < T.length) (e:ci C i=ci C j):CH T F i=CH T F j:=by
  unfold VF at hA
  unfold dm at hB
  simp only [List.all_eq_true,List.mem_range,decide_eq_true_eq] at hA
  simp only [List.all_eq_true,List.mem_range,Bool.or_eq_true,Bool.not_eq_true',decide_eq_false_iff_not,Bool.and_eq_true,beq_iff_eq,decide_eq_true_eq] at hB
  have key:∀(w:List Nat) (i j:Nat),i < T.length→j < T.length→ci C i=ci C j→EC w→DW F (w.foldl (Dh T) i)=DW F (w.foldl (Dh T) j):=by
    intro w
    induction w with
    | nil=>
      intro i j hi hj e _
      rcases hB i hi j hj with h|h
      . exact absurd e h
      . exact h.1
    | cons c w ih=>
      intro i j hi hj e hw
      have hc:=hw c (by simp)
      rcases hB i hi j hj with h|h
      . exact absurd e h
      . exact ih _ _ (hA i hi c hc) (hA j hj c hc) (h.2 c hc) (fun d hd=>hw d (by simp [hd]))
  exact Ts fun w hw=>key w i j hi hj e hw
theorem Xo (hA:VF T F C=true) (hD:dn T F C=true) {i:Nat} (hi:i < T.length) (e:ci C i= -1):Il (CH T F i):=by
  unfold VF at hA
  unfold dn at hD
  simp only [List.all_eq_true,List.mem_range,decide_eq_true_eq] at hA
  simp only [List.all_eq_true,List.mem_range,Bool.or_eq_true,Bool.not_eq_true',decide_eq_false_iff_not,Bool.and_eq_true,decide_eq_true_eq] at hD
  have key:∀(w:List Nat) (i:Nat),i < T.length→ci C i= -1→EC w→DW F (w.foldl (Dh T) i)=false:=by
    intro w
    induction w with
    | nil=>
      intro i hi e _
      rcases hD i hi with h|h
      . exact absurd e h
      . exact h.1
    | cons c w ih=>
      intro i hi e hw
      have hc:=hw c (by simp)
      rcases hD i hi with h|h
      . exact absurd e h
      . exact ih _ (hA i hi c hc) (h.2 c hc) (fun d hd=>hw d (by simp [hd]))
  intro w
  unfold CH
  cases hw:w.all (fun c=>decide (c < 8)) with
  | false=>rfl
  | true=>rw [key w i hi e fun c hc=>of_decide_eq_true (List.all_eq_true.1 hw c hc)];rfl
theorem FJ {α:Type} {l:List α} {i:Nat} {x d:α} (h:l[i]?=some x):l.getD i d=x:=by rw [List.getD_eq_getElem?_getD,h];rfl
theorem VG (h:On T F C Ws S R G=true):CanonM (CH T F 0) R G:=by
  unfold On at h
  simp only [Bool.and_eq_true,decide_eq_true_eq] at h
  obtain ⟨⟨⟨⟨⟨⟨⟨⟨⟨hA,hB⟩,hD⟩,hL⟩,hS⟩,hR⟩,hO⟩,h0⟩,hpos⟩,hG⟩:=h
  unfold gl at hL
  simp only [Bool.and_eq_true,List.all_eq_true,decide_eq_true_eq,List.any_eq_true] at hL
  obtain ⟨hW,hL⟩:=hL
  unfold gu at hR
  simp only [Bool.and_eq_true,List.all_eq_true,decide_eq_true_eq,Bool.or_eq_true,List.mem_range] at hR
  obtain ⟨⟨hRl,hR8⟩,hR⟩:=hR
  have hWl:R.flatten.length=8*S.length:=by
    rw [←hRl]
    clear hO hR hRl
    induction R with
    | nil=>rfl
    | cons r R ih=>
      have e:=ih (fun q hq=>hR8 q (by simp [hq]))
      have e8:=hR8 r (by simp)
      rw [List.flatten_cons,List.length_append,e,e8,List.length_cons]
      omega
  have hSa:∀(j:Nat) (s:Nat),S[j]?=some s→s < T.length:=fun j s hs=>(hL s (List.mem_of_getElem? hs)).1
  have hAx:∀i,i < T.length→∀c,c < 8→Dh T i c < T.length:=by
    have hA':=hA
    unfold VF at hA'
    simpa only [List.all_eq_true,List.mem_range,decide_eq_true_eq] using hA'
  have hrun:∀w∈Ws,∀s,CH T F s w=Xn T F s w:=fun w hw s=>by
    unfold CH Xn
    rw [List.all_eq_true.2 fun c hc=>decide_eq_true (hW w hw c hc),Bool.true_and]
  refine ⟨⟨S.map fun s=>CH T F s,⟨⟨?_,fun L hL'=>?_,fun i j L hi hj=>?_,?_,fun p v hp=>?_,fun j h1 hj=>?_⟩,?_⟩,?_⟩,hR8⟩
  . obtain ⟨s,hs⟩:∃s,S[0]?=some s:=⟨_,List.getElem?_eq_getElem hpos⟩
    rw [FJ hs] at h0
    subst h0
    rw [List.getElem?_map,hs]
    rfl
  . obtain ⟨s,hs,rfl⟩:=List.mem_map.1 hL'
    obtain ⟨_,w,hw,hr⟩:=hL s hs
    intro hd
    have:=hd w
    rw [hrun w hw,hr] at this
    cases this
  . obtain ⟨s,hs,rfl⟩:=Tt hi
    obtain ⟨s',hs',e⟩:=Tt hj
    refine Classical.byContradiction fun hne=>?_
    unfold cf at hS
    simp only [List.all_eq_true,List.mem_range,Bool.or_eq_true,decide_eq_true_eq,List.any_eq_true] at hS
    rcases hS i (List.getElem?_eq_some_iff.1 hs).1 j (List.getElem?_eq_some_iff.1 hs').1 with h|⟨w,hw,h⟩
    . exact hne h
    . rw [FJ hs,FJ hs',←hrun w hw,←hrun w hw,e] at h
      simp at h
  . rw [List.length_map,hWl];exact Nat.le_refl _
  . have hpl:p < 8*S.length:=by rw [←hWl];exact (List.getElem?_eq_some_iff.1 hp).1
    obtain ⟨s,hs⟩:∃s,S[p / 8]?=some s:=⟨_,List.getElem?_eq_getElem (by omega)⟩
    have hsT:=hSa _ _ hs
    have hx:=hAx s hsT (p % 8) (Nat.mod_lt _ (by decide))
    refine ⟨CH T F s,by rw [List.getElem?_map,hs];rfl,?_⟩
    have hRp:=hR p hpl
    rw [FJ hp,FJ hs] at hRp
    rw [←Gt (Nat.mod_lt _ (by decide))]
    rcases hRp with ⟨h1,h2⟩|⟨⟨h1,h2⟩,h3⟩
    . exact .inl ⟨h1,Xo hA hD hx h2⟩
    . obtain ⟨s',hs'⟩:∃s',S[v.toNat]?=some s':=⟨_,List.getElem?_eq_getElem h2⟩
      rw [FJ hs'] at h3
      refine .inr ⟨v.toNat,by omega,?_⟩
      rw [List.getElem?_map,hs']
      exact congrArg some (Zz hA hB (hSa _ _ hs') hx h3)
  . rw [List.length_map] at hj
    unfold gv at hO
    simp only [List.all_eq_true,List.mem_range,Bool.or_eq_true,decide_eq_true_eq,List.any_eq_true,Bool.and_eq_true] at hO
    rcases hO j hj with h|⟨p,hp,⟨h2,h3⟩,h4⟩
    . omega
    . obtain ⟨v,hv⟩:∃v,R.flatten[p]?=some v:=⟨_,List.getElem?_eq_getElem (by omega)⟩
      rw [FJ hv] at h3
      refine ⟨p,h2,by rw [hv,h3],fun q hq v' hv'=>?_⟩
      have:=h4 q hq
      rwa [FJ hv'] at this
  . rw [List.length_map,hWl]
  . rw [hG,List.map_map]
    refine List.map_congr_left fun s _=>?_
    show DW F s=CH T F s []
    rw [KS]
end
end Go.Proofs.YtkaiffheakalmaaGreatDoor
namespace Go.Proofs.YtkaiffheakalmaaGreatDoor
open Go.RowKit
def iA (Z:List Int) (i n:Nat) (to:Int) (s:List Int×Bool):List Int×Bool:=
  if to < 0 then s else if s.1.getD to.toNat 0 < 0 then s else if Z.getD n 0=0 then s else
  if s.1.getD i 0 < 0∨Z.getD n 0+s.1.getD to.toNat 0 < s.1.getD i 0 then (s.1.set i (Z.getD n 0+s.1.getD to.toNat 0),true) else s
def VH (Z:List Int) (i:Nat) (row:List Int):Nat→List Int×Bool→List Int×Bool
  | 0,s=>s
  | n+1,s=>iA Z i n (row.getD n (-1)) (VH Z i row n s)
def QX (Z:List Int) (N:List (List Int)):Nat→List Int→List Int×Bool
  | 0,out=>(out,false)
  | i+1,out=>VH Z i (N.getD i []) 8 (QX Z N i out)
def KA (Z:List Int) (N:List (List Int)):Nat→List Int→List Int×Bool
  | 0,out=>(out,true)
  | k+1,out=>QX Z N N.length (KA Z N k out).1
def Dj (F:List Bool) (i:Nat):List Int:=(List.range F.length).map fun j=>if j < i then (if F.getD j false then 0 else -1) else 0
theorem L7 (F:List Bool) (i:Nat):(Dj F i).length=F.length:=by simp [Dj]
theorem dp {F:List Bool} {i:Nat} (h:F[i]?=some true):Dj F (i+1)=Dj F i:=by
  unfold Dj
  refine List.map_congr_left fun j hj=>?_
  by_cases e:j=i
  . subst e
    rw [if_pos (Nat.lt_succ_self _),if_neg (Nat.lt_irrefl _),List.getD_eq_getElem?_getD,h]
    rfl
  . by_cases h1:j < i
    . rw [if_pos (by omega),if_pos h1]
    . rw [if_neg (by omega),if_neg h1]
theorem dq {F:List Bool} {i:Nat} (h:F[i]?=some false):Dj F (i+1)=(Dj F i).set i (-1):=by
  apply List.ext_getElem?
  intro j
  have hi:=(List.getElem?_eq_some_iff.1 h).1
  rw [List.getElem?_set]
  unfold Dj
  by_cases hj:j < F.length
  . rw [List.getElem?_map,List.getElem?_map,List.getElem?_range hj]
    by_cases e:i=j
    . subst e
      rw [if_pos rfl,if_pos (by simpa using hi)]
      simp only [Option.map_some]
      rw [if_pos (Nat.lt_succ_self _),List.getD_eq_getElem?_getD,h]
      rfl
    . rw [if_neg e]
      simp only [Option.map_some]
      by_cases h1:j < i
      . rw [if_pos (by omega),if_pos h1]
      . rw [if_neg (by omega),if_neg h1]
  . rw [List.getElem?_eq_none (by simpa using Nat.le_of_not_lt hj),if_neg (by omega),List.getElem?_eq_none (by simpa using Nat.le_of_not_lt hj)]
theorem dr (F:List Bool):Dj F 0=List.replicate F.length 0:=by
  unfold Dj
  apply List.ext_getElem?
  intro j
  rw [List.getElem?_map,List.getElem?_replicate]
  by_cases hj:j < F.length
  . rw [List.getElem?_range hj,if_pos hj];rfl
  . rw [List.getElem?_eq_none (by simpa using Nat.le_of_not_lt hj),if_neg hj];rfl
theorem Z0 (Z:List Int) (i n:Nat) (to:Int) (s:List Int×Bool):(iA Z i n to s).1.length=s.1.length:=by
  unfold iA
  repeat' split
  all_goals simp
theorem Oo (Z:List Int) (i:Nat) (row:List Int):∀(n:Nat) (s:List Int×Bool),(VH Z i row n s).1.length=s.1.length
  | 0,s=>rfl
  | n+1,s=>by rw [VH,Z0,Oo Z i row n s]
theorem Oq (Z:List Int) (N:List (List Int)):∀(i:Nat) (out:List Int),(QX Z N i out).1.length=out.length
  | 0,out=>rfl
  | i+1,out=>by rw [QX,Oo,Oq Z N i out]
theorem Ot (Z:List Int) (N:List (List Int)) (out:List Int):∀k,(KA Z N k out).1.length=out.length
  | 0=>rfl
  | k+1=>by rw [KA,Oq,Ot Z N out k]
def QY (ty au:List V) (m:Nat):V:=.agg [.lst ty,.lst au,.sl 1 0 m]
set_option maxHeartbeats 16000000 in
theorem dt (ty au:List V) (Z:List Int) (N:List (List Int)) (F:List Bool) (R:Nat) (hZ:∀z∈Z,0≤z∧z≤1000000) (hN:∀r∈N,r.length=8∧(∀x∈r,-1≤x∧x < N.length)∧∀n,Z.length≤n→r.getD n (-1) < 0) (hF:F.length=N.length) (h40:N.length≤40)
    (hR:R≤100) (hend:(KA Z N R (Dj F F.length)).2=false) (hgo:∀k,k < R→(KA Z N k (Dj F F.length)).2=true):
    HFn Tryz.prog 69 [.ptr 0 0 0,.agg [.lst (N.map AY),.lst (F.map V.bool)]] [.row 3 [QY ty au Z.length],.row 1 (Z.map (V.int .i64))] [0] (fun r o=>r=AY (KA Z N R (Dj F F.length)).1∧o=[.row 3 [QY ty au Z.length],.row 1 (Z.map (V.int .i64))]):=by
  have hNm:(N.map AY).length=N.length:=by simp
  have hFm:(F.map V.bool).length=F.length:=by simp
  have hZm:(Z.map (V.int .i64)).length=Z.length:=by simp
  refine HO (T:=Tryz.tt) Tryz.func69 rfl AR AB ?_ ?_ fun C vs hC hE=>?_
  . kernel_rfl
  . exact Nat.le_of_ble_eq_true (by kernel_rfl)
  unfold QY
  conv=>whnf
  repeat' (first|(refine Af (by first|assumption|omega) ?_;conv=>whnf)|(intro hlen;conv=>whnf))
  refine Ae (fun i:Nat=>⟨99,[(0,.ptr 0 0 0),(3,.rp [.lst (N.map AY),.lst (F.map V.bool)]),(5,.sl 4 0 N.length),(19,.lst (F.map V.bool)),(20,.int .i64 (F.map V.bool).length),(21,.int .i64 i)],[some (.row 3 [.agg [.lst ty,.lst au,.sl 1 0 Z.length]]),some (.row 1 (Z.map (V.int .i64))),some (.hid vs [.ptr 0 0 0,.agg [.lst (N.map AY),.lst (F.map V.bool)]]),none,some (.row 1 ((Dj F i).map (V.int .i64)))]⟩)
    (fun i=>i≤F.length) (fun i=>F.length - i) 0 hE ?_ ?_ (Nat.zero_le _) ?_
  . kernel_rfl
  . refine AO 3 (z:=2) (els:=[.agg [.lst (N.map AY),.lst (F.map V.bool)]]) rfl ⟨⟨trivial,trivial,trivial⟩,trivial⟩ (AU [0,3,5,19,20,21] ?_)
    conv=>whnf
    have hrep:List.replicate N.length (V.int .i64 0)=(List.replicate N.length (0:Int)).map (V.int .i64):=by rw [List.map_replicate]
    rw [dr,hF]
    simp only [Int.toNat_natCast,hNm,hrep,AZ _ _ (AE _)]
    rfl
  intro i hi
  have hOl:=L7 F i
  have hOm:((Dj F i).map (V.int .i64)).length=(Dj F i).length:=by simp
  by_cases hlt:i < F.length
  . obtain ⟨b,hb⟩:∃b,F[i]?=some b:=⟨_,List.getElem?_eq_getElem hlt⟩
    have gb:(F.map V.bool)[i]?=some (.bool b):=by rw [List.getElem?_map,hb];rfl
    have gb':(F.map V.bool)[Int.toNat (i:Int)]?=some (.bool b):=by rw [Int.toNat_natCast];exact gb
    obtain ⟨y,hy⟩:∃y,(Dj F i)[i]?=some y:=⟨_,List.getElem?_eq_getElem (by omega)⟩
    have gy:((Dj F i).map (V.int .i64))[0+Int.toNat (i:Int)]?=some (.int .i64 y):=by rw [Nat.zero_add,Int.toNat_natCast,List.getElem?_map,hy];rfl
    cases b
    . have hn:=dq hb
      conv=>whnf
      repeat' (first|(refine AN (by first|assumption|omega) ?_;conv=>whnf)|(refine Af (by first|assumption|omega) ?_;conv=>whnf)|(refine AS (by omega) ?_;conv=>whnf)|(refine AQ (by assumption) ?_;conv=>whnf))
      refine AJ [0,3,5,19,20,21] (i+1) hlt (by omega) ?_
      conv=>whnf
      rw [hn,Nat.zero_add,Int.toNat_natCast,List.map_set]
      rfl
    . have hn:=dp hb
      conv=>whnf
      repeat' (first|(refine AN (by first|assumption|omega) ?_;conv=>whnf)|(refine Af (by first|assumption|omega) ?_;conv=>whnf)|(refine AS (by omega) ?_;conv=>whnf)|(refine AQ (by assumption) ?_;conv=>whnf))
      refine AJ [0,3,5,19,20,21] (i+1) hlt (by omega) ?_
      conv=>whnf
      rw [hn]
      rfl
  obtain rfl:i=F.length:=by omega
  have hol:=L7 F F.length
  have hini:∀x∈Dj F F.length,x≤0:=fun x hx=>by
    unfold Dj at hx
    obtain ⟨j,_,rfl⟩:=List.mem_map.1 hx
    repeat' split
    all_goals omega
  generalize Dj F F.length=out0 at*
  conv=>whnf
  repeat' (refine AM (by first|assumption|omega) ?_;conv=>whnf)
  refine Ae (fun k:Nat=>⟨99,[(0,.ptr 0 0 0),(3,.rp [.lst (N.map AY),.lst (F.map V.bool)]),(5,.sl 4 0 N.length),(8,.bool (KA Z N k out0).2)],[some (.row 3 [.agg [.lst ty,.lst au,.sl 1 0 Z.length]]),some (.row 1 (Z.map (V.int .i64))),some (.hid vs [.ptr 0 0 0,.agg [.lst (N.map AY),.lst (F.map V.bool)]]),none,some (.row 1 ((KA Z N k out0).1.map (V.int .i64)))]⟩)
    (fun k=>k≤R∧∀x∈(KA Z N k out0).1,x≤1000000*(320*(k:Int)+1)) (fun k=>R - k) 0 hE ?_ ?_ ⟨Nat.zero_le _,?_⟩ ?_
  . kernel_rfl
  . refine AU [0,3,5,8] ?_
    conv=>whnf
    rfl
  . intro x hx
    have:=hini x hx
    omega
  rintro k ⟨hk,hB⟩
  have hOl:=Ot Z N out0 k
  have hstep:KA Z N (k+1) out0=QX Z N N.length (KA Z N k out0).1:=rfl
  by_cases hkR:k < R
  . have hm:=hgo k hkR
    generalize KA Z N k out0=q at hB hOl hstep hm
    obtain ⟨out,more⟩:=q
    simp only at hm hB hOl hstep
    subst hm
    conv=>whnf
    repeat' (intro hlen;conv=>whnf)
    refine Ae (fun i:Nat=>⟨99,[(0,.ptr 0 0 0),(3,.rp [.lst (N.map AY),.lst (F.map V.bool)]),(5,.sl 4 0 N.length),(8,.bool (QX Z N i out).2),(34,.lst (N.map AY)),(35,.int .i64 (N.map AY).length),(36,.int .i64 i)],[some (.row 3 [.agg [.lst ty,.lst au,.sl 1 0 Z.length]]),some (.row 1 (Z.map (V.int .i64))),some (.hid vs [.ptr 0 0 0,.agg [.lst (N.map AY),.lst (F.map V.bool)]]),none,some (.row 1 ((QX Z N i out).1.map (V.int .i64)))]⟩)
      (fun i=>i≤N.length∧∀x∈(QX Z N i out).1,x≤1000000*(320*(k:Int)+8*(i:Int)+1)) (fun i=>N.length - i) 0 hE ?_ ?_ ⟨Nat.zero_le _,fun x hx=>by have:=hB x hx;omega⟩ ?_
    . kernel_rfl
    . refine AU [0,3,5,8,34,35,36] ?_
      conv=>whnf
      rfl
    rintro i ⟨hi,hBi⟩
    have hRl:=Oq Z N i out
    by_cases hlt:i < N.length
    . obtain ⟨row,hrow⟩:∃row,N[i]?=some row:=⟨_,List.getElem?_eq_getElem hlt⟩
      obtain ⟨h8,hxs,hxn⟩:=hN row (List.mem_of_getElem? hrow)
      have gr:(N.map AY)[i]?=some (AY row):=by rw [List.getElem?_map,hrow];rfl
      have hrm:(row.map (V.int .i64)).length=row.length:=by simp
      have hnx:QX Z N (i+1) out=VH Z i row 8 (QX Z N i out):=by rw [QX,List.getD_eq_getElem?_getD,hrow];rfl
      generalize QX Z N i out=q0 at hBi hRl hnx
      conv=>whnf
      repeat' (first|(refine AN (by first|assumption|omega) ?_;conv=>whnf)|(refine Af (by first|assumption|omega) ?_;conv=>whnf)|(refine AQ (by assumption) ?_;conv=>whnf)|(intro hlen;conv=>whnf))
      refine Ae (fun n:Nat=>⟨99,[(0,.ptr 0 0 0),(3,.rp [.lst (N.map AY),.lst (F.map V.bool)]),(5,.sl 4 0 N.length),(8,.bool (VH Z i row n q0).2),(9,.int .i64 i),(34,.lst (N.map AY)),(35,.int .i64 (N.map AY).length),(36,.int .i64 i),(41,.lst (row.map (V.int .i64))),(42,.int .i64 (row.map (V.int .i64)).length),(43,.int .i64 n)],[some (.row 3 [.agg [.lst ty,.lst au,.sl 1 0 Z.length]]),some (.row 1 (Z.map (V.int .i64))),some (.hid vs [.ptr 0 0 0,.agg [.lst (N.map AY),.lst (F.map V.bool)]]),none,some (.row 1 ((VH Z i row n q0).1.map (V.int .i64)))]⟩)
        (fun n=>n≤8∧∀x∈(VH Z i row n q0).1,x≤1000000*(320*(k:Int)+8*(i:Int)+n+1)) (fun n=>8 - n) 0 hE ?_ ?_ ⟨Nat.zero_le _,fun x hx=>by have:=hBi x hx;omega⟩ ?_
      . kernel_rfl
      . refine AU [0,3,5,8,9,34,35,36,41,42,43] ?_
        conv=>whnf
        rfl
      rintro n ⟨hn,hBn⟩
      have hql:(VH Z i row n q0).1.length=N.length:=by rw [Oo,hRl,hOl,hol,hF]
      by_cases hn8:n < 8
      . obtain ⟨x,hx⟩:∃x,row[n]?=some x:=⟨_,List.getElem?_eq_getElem (by omega)⟩
        obtain ⟨hx1,hx2⟩:=hxs x (List.mem_of_getElem? hx)
        have gx:(row.map (V.int .i64))[n]?=some (.int .i64 x):=by rw [List.getElem?_map,hx];rfl
        have hrn:row.getD n (-1)=x:=by rw [List.getD_eq_getElem?_getD,hx];rfl
        have hst:VH Z i row (n+1) q0=iA Z i n x (VH Z i row n q0):=by rw [VH,hrn]
        generalize VH Z i row n q0=q at hBn hql hst
        obtain ⟨out2,mo⟩:=q
        simp only at hBn hql
        have hom:(out2.map (V.int .i64)).length=out2.length:=by simp
        unfold iA at hst
        simp only at hst
        by_cases hx0:x < 0
        . rw [if_pos hx0] at hst
          conv=>whnf
          repeat' (first|(refine AN (by first|assumption|omega) ?_;conv=>whnf)|(refine Af (by first|assumption|omega) ?_;conv=>whnf)|(refine AS (by omega) ?_;conv=>whnf)|(refine AQ (by assumption) ?_;conv=>whnf))
          refine AJ [0,3,5,8,9,34,35,36,41,42,43] (n+1) ⟨hn8,?_⟩ (by omega) ?_
          . rw [hst];intro v hv;have:=hBn v hv;omega
          conv=>whnf
          rw [hst]
          rfl
        rw [if_neg hx0] at hst
        have hxn':x.toNat < out2.length:=by omega
        obtain ⟨y,hy⟩:∃y,out2[x.toNat]?=some y:=⟨_,List.getElem?_eq_getElem hxn'⟩
        have gy:(out2.map (V.int .i64))[0+Int.toNat x]?=some (.int .i64 y):=by rw [Nat.zero_add,List.getElem?_map,hy];rfl
        have hyD:out2.getD x.toNat 0=y:=by rw [List.getD_eq_getElem?_getD,hy];rfl
        rw [hyD] at hst
        have hyB:=hBn y (List.mem_of_getElem? hy)
        by_cases hy0:y < 0
        . rw [if_pos hy0] at hst
          conv=>whnf
          repeat' (first|(refine AN (by first|assumption|omega) ?_;conv=>whnf)|(refine AM (by first|assumption|omega) ?_;conv=>whnf)|(refine Af (by first|assumption|omega) ?_;conv=>whnf)|(refine AS (by omega) ?_;conv=>whnf)|(refine AQ (by assumption) ?_;conv=>whnf))
          refine AJ [0,3,5,8,9,34,35,36,41,42,43] (n+1) ⟨hn8,?_⟩ (by omega) ?_
          . rw [hst];intro v hv;have:=hBn v hv;omega
          conv=>whnf
          rw [hst]
          rfl
        rw [if_neg hy0] at hst
        have hnZ:n < Z.length:=by
          refine Classical.byContradiction fun hh=>?_
          have:=hxn n (by omega)
          rw [hrn] at this
          omega
        obtain ⟨z,hz⟩:∃z,Z[n]?=some z:=⟨_,List.getElem?_eq_getElem hnZ⟩
        obtain ⟨hz0,hz1⟩:=hZ z (List.mem_of_getElem? hz)
        have gz:(Z.map (V.int .i64))[0+Int.toNat (n:Int)]?=some (.int .i64 z):=by rw [Nat.zero_add,Int.toNat_natCast,List.getElem?_map,hz];rfl
        have hzD:Z.getD n 0=z:=by rw [List.getD_eq_getElem?_getD,hz];rfl
        rw [hzD] at hst
        by_cases hzz:z=0
        . rw [if_pos hzz] at hst
          conv=>whnf
          repeat' (first|(refine AN (by first|assumption|omega) ?_;conv=>whnf)|(refine AM (by first|assumption|omega) ?_;conv=>whnf)|(refine Af (by first|assumption|omega) ?_;conv=>whnf)|(refine AS (by omega) ?_;conv=>whnf)|(refine AQ (by assumption) ?_;conv=>whnf))
          refine AJ [0,3,5,8,9,34,35,36,41,42,43] (n+1) ⟨hn8,?_⟩ (by omega) ?_
          . rw [hst];intro v hv;have:=hBn v hv;omega
          conv=>whnf
          rw [hst]
          rfl
        rw [if_neg hzz] at hst
        obtain ⟨o,ho⟩:∃o,out2[i]?=some o:=⟨_,List.getElem?_eq_getElem (by omega)⟩
        have go:(out2.map (V.int .i64))[0+Int.toNat (i:Int)]?=some (.int .i64 o):=by rw [Nat.zero_add,Int.toNat_natCast,List.getElem?_map,ho];rfl
        have hoD:out2.getD i 0=o:=by rw [List.getD_eq_getElem?_getD,ho];rfl
        rw [hoD] at hst
        by_cases hc:o < 0∨z+y < o
        . rw [if_pos hc] at hst
          have hsb:∀v∈out2.set i (z+y),v≤1000000*(320*(k:Int)+8*(i:Int)+((n+1:Nat):Int)+1):=fun v hv=>by
            rcases List.mem_or_eq_of_mem_set hv with h|h
            . have:=hBn v h;omega
            . omega
          rcases hc with hc|hc
          . conv=>whnf
            repeat' (first|(refine AN (by first|assumption|omega) ?_;conv=>whnf)|(refine AM (by first|assumption|omega) ?_;conv=>whnf)|(refine Af (by first|assumption|omega) ?_;conv=>whnf)|(refine AS (by omega) ?_;conv=>whnf)|(refine AQ (by assumption) ?_;conv=>whnf)|(refine BW hE ?_ ?_;decide +kernel;conv=>whnf))
            refine AJ [0,3,5,8,9,34,35,36,41,42,43] (n+1) ⟨hn8,?_⟩ (by omega) ?_
            . rw [hst];exact hsb
            conv=>whnf
            rw [hst,Nat.zero_add,Int.toNat_natCast,List.map_set]
            rfl
          . by_cases ho0:o < 0
            all_goals
              conv=>whnf
              repeat' (first|(refine AN (by first|assumption|omega) ?_;conv=>whnf)|(refine AM (by first|assumption|omega) ?_;conv=>whnf)|(refine Af (by first|assumption|omega) ?_;conv=>whnf)|(refine AS (by omega) ?_;conv=>whnf)|(refine AQ (by assumption) ?_;conv=>whnf)|(refine BW hE ?_ ?_;decide +kernel;conv=>whnf))
              all_goals first
              | (exfalso;omega)
              | (refine AJ [0,3,5,8,9,34,35,36,41,42,43] (n+1) ⟨hn8,?_⟩ (by omega) ?_
                 . rw [hst];exact hsb
                 conv=>whnf
                 rw [hst,Nat.zero_add,Int.toNat_natCast,List.map_set]
                 rfl)
        . rw [if_neg hc] at hst
          have hc1:¬o < 0:=fun h=>hc (.inl h)
          have hc2:¬z+y < o:=fun h=>hc (.inr h)
          conv=>whnf
          repeat' (first|(refine AN (by first|assumption|omega) ?_;conv=>whnf)|(refine AM (by first|assumption|omega) ?_;conv=>whnf)|(refine Af (by first|assumption|omega) ?_;conv=>whnf)|(refine AS (by omega) ?_;conv=>whnf)|(refine AQ (by assumption) ?_;conv=>whnf)|(refine BW hE ?_ ?_;decide +kernel;conv=>whnf))
          refine AJ [0,3,5,8,9,34,35,36,41,42,43] (n+1) ⟨hn8,?_⟩ (by omega) ?_
          . rw [hst];intro v hv;have:=hBn v hv;omega
          conv=>whnf
          rw [hst]
          rfl
      . obtain rfl:n=8:=by omega
        conv=>whnf
        repeat' (first|(refine AM (by first|assumption|omega) ?_;conv=>whnf)|(refine AS (by omega) ?_;conv=>whnf))
        refine AJ [0,3,5,8,34,35,36] (i+1) ⟨hlt,?_⟩ (by omega) ?_
        . rw [hnx]
          intro v hv
          have:=hBn v hv
          omega
        conv=>whnf
        rw [hnx]
        try rfl
    . obtain rfl:i=N.length:=by omega
      conv=>whnf
      repeat' (refine AM (by first|assumption|omega) ?_;conv=>whnf)
      refine AJ [0,3,5,8] (k+1) ⟨hkR,?_⟩ (by omega) ?_
      . rw [hstep]
        intro x hx
        have:=hBi x hx
        omega
      conv=>whnf
      rw [hstep]
  . obtain rfl:k=R:=by omega
    rw [show KA Z N k out0=((KA Z N k out0).1,false) from Prod.ext rfl hend]
    generalize (KA Z N k out0).1=out at*
    have hom:(out.map (V.int .i64)).length=out.length:=by simp
    conv=>whnf
    skip
    refine Aq (BM 4 4 [] rfl (AE out) rfl (by omega) rfl (AP (BK hE ?_)))
    conv=>whnf
    refine ⟨rfl,rfl,rfl,?_⟩
    simp only [Ob.frz,AZ _ _ (AE Z)]
    rfl
end Go.Proofs.YtkaiffheakalmaaGreatDoor
namespace Go.Proofs.YtkaiffheakalmaaGreatDoor
open Go.RowKit
def FK (a n:Int):Int:=if a.tmod n < 0 then a.tmod n+n else a.tmod n
theorem Gx (a:Int) {n:Int} (hn:0 < n):0≤FK a n∧FK a n < n:=by
  have h1:=Int.tmod_lt_of_pos a hn
  unfold FK
  split
  . have h2:-n < a.tmod n:=by
      have:=Int.lt_tmod_of_pos a hn
      omega
    omega
  . omega
theorem Ry (a n:Int) (hn:0 < n) (ha:-9223372036854775808≤a∧a≤9223372036854775807) (hn2:n≤9223372036854775807):Fn1 Tryz.prog 6 [.int .i64 a,.int .i64 n] (fun r=>r= .int .i64 (FK a n)):=by
  have hr:=Gx a hn
  unfold FK at hr ⊢
  refine A4 (T:=Tryz.tt) Tryz.func6 rfl AR AB ?_ ?_ fun C hC hE=>?_
  . kernel_rfl
  . exact Nat.le_of_ble_eq_true (by kernel_rfl)
  conv=>whnf
  repeat' (first|(refine Af (by first|assumption|omega) ?_;conv=>whnf)|(refine AS (by omega) ?_;conv=>whnf)|(refine He (fun h=>?_) (fun h=>?_)<;>conv=>whnf)|(refine AH hE ?_;conv=>whnf))
  all_goals
    refine ⟨rfl,?_⟩
    (repeat' split)
    all_goals first|rfl|(exfalso;omega)
def HS (l:List Int) (i:Nat) (s:List (List UInt8)):List UInt8:=match l[i]? with|none=>s.getD 0 []|some a=>s.getD (FK a s.length).toNat []
set_option maxHeartbeats 4000000 in
theorem JX (l:List Int) (hl:∀x∈l,-9223372036854775808≤x∧x≤9223372036854775807) (i:Nat) (hi:i≤1000) (s:List (List UInt8)) (hs:0 < s.length) (hs2:s.length≤1000):
    Fn1 Tryz.prog 15 [.int .i64 i,.lst (s.map V.str),.rp [AY l]] (fun r=>r= .str (HS l i s)):=by
  have hlm:(l.map (V.int .i64)).length=l.length:=by simp
  have hsm:(s.map V.str).length=s.length:=by simp
  unfold HS AY
  by_cases h:i < l.length
  . obtain ⟨x,hx⟩:∃x,l[i]?=some x:=⟨_,List.getElem?_eq_getElem h⟩
    have hg:(l.map (V.int .i64))[i]?=some (.int .i64 x):=by rw [List.getElem?_map,hx];rfl
    have hr:=Gx x (n:=s.length) (by omega)
    have hp:=Ry x s.length (by omega) (hl x (List.mem_of_getElem? hx)) (by omega)
    obtain ⟨j,hj⟩:∃j:Nat,FK x s.length=j:=⟨(FK x s.length).toNat,by omega⟩
    rw [hj] at hp hr
    obtain ⟨y,hy⟩:∃y,s[j]?=some y:=⟨_,List.getElem?_eq_getElem (by omega)⟩
    have hy2:(s.map V.str)[j]?=some (.str y):=by rw [List.getElem?_map,hy];rfl
    rw [←hsm] at hp
    refine A4 (T:=Tryz.tt) Tryz.func15 rfl AR AB ?_ ?_ fun C hC hE=>?_
    . kernel_rfl
    . exact Nat.le_of_ble_eq_true (by kernel_rfl)
    conv=>whnf
    repeat' (first|(refine AM (by first|assumption|omega) ?_;conv=>whnf)|(refine Af (by first|assumption|omega) ?_;conv=>whnf)|(refine AQ (by assumption) ?_;conv=>whnf)|(refine AC (hp) hC Je ?_ ?_ ?_;kernel_rfl;kernel_rfl;conv=>whnf)|(refine AH hE ?_;conv=>whnf)|(intro hlen;conv=>whnf))
    all_goals
      refine ⟨rfl,?_⟩
      simp only [hx,hj,Int.toNat_natCast,List.getD_eq_getElem?_getD,hy,Option.getD_some]
  . have hx:l[i]?=none:=List.getElem?_eq_none (by omega)
    obtain ⟨y,hy⟩:∃y,s[0]?=some y:=⟨_,List.getElem?_eq_getElem (by omega)⟩
    have hy2:(s.map V.str)[0]?=some (.str y):=by rw [List.getElem?_map,hy];rfl
    refine A4 (T:=Tryz.tt) Tryz.func15 rfl AR AB ?_ ?_ fun C hC hE=>?_
    . kernel_rfl
    . exact Nat.le_of_ble_eq_true (by kernel_rfl)
    conv=>whnf
    repeat' (first|(refine AN (by first|assumption|omega) ?_;conv=>whnf)|(refine Af (by first|assumption|omega) ?_;conv=>whnf)|(refine AQ (by assumption) ?_;conv=>whnf)|(refine AH hE ?_;conv=>whnf)|(intro hlen;conv=>whnf))
    all_goals
      refine ⟨rfl,?_⟩
      simp only [hx,List.getD_eq_getElem?_getD,hy,Option.getD_some]
structure Ty where
  name:List UInt8
  content:List UInt8
  attrs:List (List UInt8)
def DH (t:Ty):V:=.agg [.str t.name,.str t.content,.lst (t.attrs.map V.str)]
def wds0:List (List UInt8):=[[40,98,124,99,124,100,41,43],[99,63,98,42],[40,98,124,100,41,42],[99,98,43,100,63]]
def wds1:List (List UInt8):=[[103,63,40,102,43,103,63,41,42],[40,102,124,103,102,41,42,103,63],[103,63]]
def wds2:List (List UInt8):=[[103],[103,63]]
def wds3:List (List UInt8):=[[101,43],[101,101,42],[101,42]]
def wds4:List (List UInt8):=[[98,43],[103,63],[40,98,124,100,41,42]]
def wds5:List (List UInt8):=[[103],[103,63]]
def du (l:List Int):List Ty:=[⟨[100,111,99],HS l 0 wds0,[]⟩,⟨[112],HS l 1 wds1,[[99,108,97,115,115]]⟩,⟨[104,49],HS l 2 wds2,[]⟩,⟨[117,108],HS l 3 wds3,[]⟩,⟨[108,105],HS l 4 wds4,[]⟩,⟨[101,109],HS l 5 wds5,[]⟩,⟨[],[],[]⟩]
set_option maxHeartbeats 4000000 in
theorem Rz (l:List Int) (hl:∀x∈l,-9223372036854775808≤x∧x≤9223372036854775807):Fn1 Tryz.prog 5 [AY l] (fun r=>r= .lst ((du l).map DH)):=by
  have h0:=JX l hl 0 (by omega) wds0 (by decide) (by decide)
  have h1:=JX l hl 1 (by omega) wds1 (by decide) (by decide)
  have h2:=JX l hl 2 (by omega) wds2 (by decide) (by decide)
  have h3:=JX l hl 3 (by omega) wds3 (by decide) (by decide)
  have h4:=JX l hl 4 (by omega) wds4 (by decide) (by decide)
  have h5:=JX l hl 5 (by omega) wds5 (by decide) (by decide)
  refine OK ?_
  refine A4 (T:=Tryz.tt) Tryz.func5 rfl AR AB ?_ ?_ fun C hC hE=>?_
  . kernel_rfl
  . exact Nat.le_of_ble_eq_true (by kernel_rfl)
  conv=>whnf
  repeat' (first|(refine Ak (AO 0 (z:=1) (els:=[AY l]) rfl ⟨trivial,trivial⟩ (AP ?_));conv=>whnf)|(refine Ak (AO 1 (z:=1) (els:=wds0.map V.str) rfl (G8 _) (AP ?_));conv=>whnf)|(refine Ak (AO 0 (z:=1) (els:=wds1.map V.str) rfl (G8 _) (AP ?_));conv=>whnf)|(refine Ak (AO 1 (z:=1) (els:=wds2.map V.str) rfl (G8 _) (AP ?_));conv=>whnf)|(refine Ak (AO 1 (z:=1) (els:=wds3.map V.str) rfl (G8 _) (AP ?_));conv=>whnf)|(refine Ak (AO 1 (z:=1) (els:=wds4.map V.str) rfl (G8 _) (AP ?_));conv=>whnf)|(refine AC (h0) hC Dl ?_ ?_ ?_;kernel_rfl;kernel_rfl;conv=>whnf)|(refine AC (h1) hC Dl ?_ ?_ ?_;kernel_rfl;kernel_rfl;conv=>whnf)|(refine AC (h2) hC Dl ?_ ?_ ?_;kernel_rfl;kernel_rfl;conv=>whnf)|(refine AC (h3) hC Dl ?_ ?_ ?_;kernel_rfl;kernel_rfl;conv=>whnf)|(refine AC (h4) hC Dl ?_ ?_ ?_;kernel_rfl;kernel_rfl;conv=>whnf)|(refine AC (h5) hC Dl ?_ ?_ ?_;kernel_rfl;kernel_rfl;conv=>whnf)|(refine Ca (AO 0 (z:=1) (els:=[.str [99,108,97,115,115]]) rfl ⟨trivial,trivial⟩ (AO 1 (z:=3) (els:=[.agg [.str [100,111,99],.str (HS l 0 wds0),.nils],.agg [.str [112],.str (HS l 1 wds1),.lst [.str [99,108,97,115,115]]],.agg [.str [104,49],.str (HS l 2 wds2),.nils],.agg [.str [117,108],.str (HS l 3 wds3),.nils],.agg [.str [108,105],.str (HS l 4 wds4),.nils],.agg [.str [101,109],.str (HS l 5 wds5),.nils],.agg [.str [],.str [],.nils]]) rfl ⟨⟨trivial,trivial,trivial,trivial⟩,⟨trivial,trivial,trivial,trivial⟩,⟨trivial,trivial,trivial,trivial⟩,⟨trivial,trivial,trivial,trivial⟩,⟨trivial,trivial,trivial,trivial⟩,⟨trivial,trivial,trivial,trivial⟩,⟨trivial,trivial,trivial,trivial⟩,trivial⟩ (AP ?_)));conv=>whnf)|(refine AH hE ?_;conv=>whnf))
  all_goals exact ⟨rfl,rfl⟩
end Go.Proofs.YtkaiffheakalmaaGreatDoor
namespace Go.Proofs.YtkaiffheakalmaaGreatDoor
open Go.RowKit
structure Mc where
  N:List (List Int)
  F:List Bool
def Bs (m:Mc):V:=.agg [.lst (m.N.map AY),.lst (m.F.map V.bool)]
def rR (Z:List Int) (m:Mc):Nat:=((List.range 101).find? fun k=>!(KA Z m.N k (Dj m.F m.F.length)).2).getD 0
def Nr (Z:List Int) (m:Mc):List Int:=(KA Z m.N (rR Z m) (Dj m.F m.F.length)).1
def L8 (Z:List Int) (m:Mc):Bool:=
  (Z.all fun z=>decide (0≤z)&&decide (z≤1000000))&&(m.N.all fun r=>decide (r.length=8)&&(r.all fun x=>decide (-1≤x)&&decide (x < m.N.length))&&(List.range 8).all fun n=>decide (n < Z.length) || decide (r.getD n (-1) < 0))&&
    decide (m.F.length=m.N.length)&&decide (1≤m.N.length)&&decide (m.N.length≤40)&&(!(KA Z m.N (rR Z m) (Dj m.F m.F.length)).2)&&decide (rR Z m≤100)&&(List.range (rR Z m)).all fun k=>(KA Z m.N k (Dj m.F m.F.length)).2
theorem KV {Z:List Int} {m:Mc} (h:L8 Z m=true) (ty au:List V):HFn Tryz.prog 69 [.ptr 0 0 0,Bs m] [.row 3 [QY ty au Z.length],.row 1 (Z.map (V.int .i64))] [0] (fun r o=>r=AY (Nr Z m)∧o=[.row 3 [QY ty au Z.length],.row 1 (Z.map (V.int .i64))]):=by
  unfold L8 at h
  simp only [Bool.and_eq_true,List.all_eq_true,decide_eq_true_eq,Bool.or_eq_true,List.mem_range,Bool.not_eq_true'] at h
  obtain ⟨⟨⟨⟨⟨⟨⟨h1,h2⟩,h3⟩,_⟩,h5⟩,h6⟩,h7⟩,h8⟩:=h
  refine dt ty au Z m.N m.F (rR Z m) h1 (fun r hr=>⟨(h2 r hr).1.1,(h2 r hr).1.2,fun n hn=>?_⟩) h3 h5 h7 h6 h8
  by_cases hn8:n < 8
  . rcases (h2 r hr).2 n hn8 with h|h
    . omega
    . exact h
  . rw [List.getD_eq_getElem?_getD,List.getElem?_eq_none (by rw [(h2 r hr).1.1];omega)]
    decide
def f9 (nm:Bool) (m:Mc) (i:Nat) (s:List Int×Bool):List Int×Bool:=
  if nm=true∧(Nr s.1 m).getD 0 0 < 0 then s else
  if s.1.getD i 0=0∨(if nm then 1+(Nr s.1 m).getD 0 0 else 1) < s.1.getD i 0 then (s.1.set i (if nm then 1+(Nr s.1 m).getD 0 0 else 1),true) else s
def Ip (L:List (Bool×Mc)):Nat→List Int→List Int×Bool
  | 0,out=>(out,false)
  | i+1,out=>f9 (L.getD i (false,⟨[],[]⟩)).1 (L.getD i (false,⟨[],[]⟩)).2 i (Ip L i out)
def HG (L:List (Bool×Mc)):Nat→List Int→List Int×Bool
  | 0,out=>(out,true)
  | k+1,out=>Ip L L.length (HG L k out).1
theorem Z1 (nm:Bool) (m:Mc) (i:Nat) (s:List Int×Bool):(f9 nm m i s).1.length=s.1.length:=by
  unfold f9
  repeat' split
  all_goals simp
theorem Iq (L:List (Bool×Mc)):∀(i:Nat) (out:List Int),(Ip L i out).1.length=out.length
  | 0,out=>rfl
  | i+1,out=>by rw [Ip,Z1,Iq L i out]
theorem Tu (L:List (Bool×Mc)) (out:List Int):∀k,(HG L k out).1.length=out.length
  | 0=>rfl
  | k+1=>by rw [HG,Iq,Tu L out k]
theorem dv {Z:List Int} {m:Mc} (h:L8 Z m=true):0 < m.F.length:=by
  unfold L8 at h
  simp only [Bool.and_eq_true,List.all_eq_true,decide_eq_true_eq,Bool.or_eq_true,List.mem_range,Bool.not_eq_true'] at h
  obtain ⟨⟨⟨⟨⟨⟨⟨h1,h2⟩,h3⟩,h4⟩,h5⟩,h6⟩,h7⟩,h8⟩:=h
  omega
theorem Z2 {Z:List Int} {m:Mc}:(Nr Z m).length=m.F.length:=by unfold Nr;rw [Ot,L7]
def QZ:Nat→Nat|1=>2|j=>j
theorem HH {C:Ctx} {P:Program} {f:FuncId} {a:V} {ty au:List V} {Z y:List Int} {fop:Operand} {args:List Operand} {K:V→ES→Prop} {σ:ES} (h':List (Option Ob)) (h:HFn P f [.ptr 0 0 0,a] [.row 3 [QY ty au Z.length],.row 1 (Z.map (V.int .i64))] [0] (fun r o=>r=AY y∧o=[.row 3 [QY ty au Z.length],.row 1 (Z.map (V.int .i64))])) (hC:C.P=P) (hb:AD P f=true)
    (he:B3 σ fop args=some (f,[.ptr 0 0 0,a])) (ha:a.nr) (h0:σ.heap[0]?=some (some (.row 3 [.agg [.lst ty,.lst au,.sl 2 0 Z.length]]))) (h2:σ.heap[2]?=some (some (.row 1 (Z.map (V.int .i64)))))
    (e:fH (BG QZ [.row 3 [.agg [.lst ty,.lst au,.sl 2 0 Z.length]],.row 1 (Z.map (V.int .i64))] 0 (BA [2] σ.heap)) fun h=>h=h') (hK:f8 [2] σ.u fun u=>K (AY y) ⟨σ.n,u,h'⟩):CallN C fop args f [.ptr 0 0 0,a] K σ:=by
  rw [Oi] at hK
  rw [BB] at e
  have r0:Mf 2 QZ (.row 3 [QY ty au Z.length]) (.row 3 [.agg [.lst ty,.lst au,.sl 2 0 Z.length]]):=⟨_,rfl,_,_,rfl,⟨_,rfl,_,_,rfl,rfl,_,_,rfl,rfl,_,_,rfl,⟨by decide,rfl⟩,rfl⟩,rfl⟩
  have r1:Mf 2 QZ (.row 1 (Z.map (V.int .i64))) (.row 1 (Z.map (V.int .i64))):=Hp (AE Z)
  have hcs:∀j,j < 2→j=0∨j=1:=fun j hj=>by omega
  refine FS h hC hb he QZ (fun i j hi hj e=>?_) ⟨_,_,rfl,⟨Nat.zero_lt_succ _,rfl⟩,_,_,rfl,En _ ha,rfl⟩ (fun j o ho=>?_) [2] (fun j hj hm=>?_) (fun id hid=>?_) ?_
  . rcases hcs i hi with rfl|rfl<;>rcases hcs j hj with rfl|rfl
    . rfl
    . cases e
    . cases e
    . rfl
  . rcases hcs j (List.getElem?_eq_some_iff.1 ho).1 with rfl|rfl
    . cases ho;exact ⟨_,h0,r0⟩
    . cases ho;exact ⟨_,h2,r1⟩
  . rcases hcs j hj with rfl|rfl
    . simp
    . exact absurd (show QZ 1∈[2] from List.mem_singleton.2 rfl) hm
  . rw [List.mem_singleton] at hid
    subst hid
    exact ⟨1,Nat.lt_succ_self _,rfl⟩
  . rintro r0' objs' ⟨rfl,rfl⟩ _
    refine ⟨AY y,[.row 3 [.agg [.lst ty,.lst au,.sl 2 0 Z.length]],.row 1 (Z.map (V.int .i64))],rfl,rfl,fun j o o' ho ho'=>?_,by rw [e];exact hK⟩
    rcases hcs j (List.getElem?_eq_some_iff.1 ho).1 with rfl|rfl
    . cases ho;cases ho';exact r0
    . cases ho;cases ho';exact r1
def cj (t:Ty):Bool:=!t.name.isEmpty
def CP (l:List Ty) (ms:List Mc):List (Bool×Mc):=(l.map cj).zip ms
set_option maxHeartbeats 16000000 in
theorem VI (l:List Ty) (ms:List Mc) (hlm:ms.length=l.length) (hl:l.length≤8) (R:Nat) (hR:R≤100) (hend:(HG (CP l ms) R (List.replicate l.length 0)).2=false) (hgo:∀k,k < R→(HG (CP l ms) k (List.replicate l.length 0)).2=true)
    (hok:∀k,k < R→∀i m,ms[i]?=some m→L8 (Ip (CP l ms) i (HG (CP l ms) k (List.replicate l.length 0)).1).1 m=true) (hbd:∀k,k < R→∀i m,ms[i]?=some m→∀x∈Nr (Ip (CP l ms) i (HG (CP l ms) k (List.replicate l.length 0)).1).1 m,x≤1000000):
    HFn Tryz.prog 37 [.ptr 0 0 0] [.row 3 [.agg [.lst (l.map DH),.lst (ms.map Bs),.nils]]] [0] (fun r o=>r= .tup []∧o=[.row 3 [.agg [.lst (l.map DH),.lst (ms.map Bs),AY (HG (CP l ms) R (List.replicate l.length 0)).1]]]):=by
  have hlM:(l.map DH).length=l.length:=by simp
  have hmM:(ms.map Bs).length=ms.length:=by simp
  refine HO (T:=Tryz.tt) Tryz.func37 rfl AR AB ?_ ?_ fun C vs hC hE=>?_
  . kernel_rfl
  . exact Nat.le_of_ble_eq_true (by kernel_rfl)
  generalize hz0:List.replicate l.length (0:Int)=z0 at*
  have hz0l:z0.length=l.length:=by rw [←hz0];simp
  conv=>whnf
  repeat' (first|(refine Af (by first|assumption|omega) ?_;conv=>whnf)|(intro hlen;conv=>whnf))
  refine Ae (fun k:Nat=>⟨73,[(0,.ptr 0 0 0),(2,.bool (HG (CP l ms) k z0).2)],[some (.row 3 [.agg [.lst (l.map DH),.lst (ms.map Bs),.sl 2 0 l.length]]),some (.hid vs [.ptr 0 0 0]),some (.row 1 ((HG (CP l ms) k z0).1.map (V.int .i64)))]⟩)
    (fun k=>k≤R) (fun k=>R - k) 0 hE ?_ ?_ (Nat.zero_le _) ?_
  . kernel_rfl
  . refine AU [0,2] ?_
    conv=>whnf
    have hrep:List.replicate l.length (V.int .i64 0)=z0.map (V.int .i64):=by rw [←hz0,List.map_replicate]
    simp only [hlM,Int.toNat_natCast,hrep]
    rfl
  intro k hk
  have hOl:=Tu (CP l ms) z0 k
  have hstep:HG (CP l ms) (k+1) z0=Ip (CP l ms) (CP l ms).length (HG (CP l ms) k z0).1:=rfl
  have hLl:(CP l ms).length=l.length:=by simp [CP,hlm]
  rw [hLl] at hstep
  by_cases hkR:k < R
  . have hm:=hgo k hkR
    have hok:=hok k hkR
    have hbd:=hbd k hkR
    generalize HG (CP l ms) k z0=q at hOl hstep hm hok hbd
    obtain ⟨out,more⟩:=q
    simp only at hm hOl hstep hok hbd
    subst hm
    conv=>whnf
    repeat' (intro hlen;conv=>whnf)
    refine Ae (fun i:Nat=>⟨73,[(0,.ptr 0 0 0),(2,.bool (Ip (CP l ms) i out).2),(20,.lst (l.map DH)),(21,.int .i64 (l.map DH).length),(22,.int .i64 i)],[some (.row 3 [.agg [.lst (l.map DH),.lst (ms.map Bs),.sl 2 0 l.length]]),some (.hid vs [.ptr 0 0 0]),some (.row 1 ((Ip (CP l ms) i out).1.map (V.int .i64)))]⟩)
      (fun i=>i≤l.length) (fun i=>l.length - i) 0 hE ?_ ?_ (Nat.zero_le _) ?_
    . kernel_rfl
    . refine AU [0,2,20,21,22] ?_
      conv=>whnf
      rfl
    intro i hi
    have hRl:=Iq (CP l ms) i out
    by_cases hlt:i < l.length
    . obtain ⟨t,ht⟩:∃t,l[i]?=some t:=⟨_,List.getElem?_eq_getElem hlt⟩
      obtain ⟨m,hmm⟩:∃m,ms[i]?=some m:=⟨_,List.getElem?_eq_getElem (by omega)⟩
      have gt:(l.map DH)[i]?=some (DH t):=by rw [List.getElem?_map,ht];rfl
      have gm:(ms.map Bs)[Int.toNat (i:Int)]?=some (Bs m):=by rw [Int.toNat_natCast,List.getElem?_map,hmm];rfl
      have hLi:(CP l ms).getD i (false,⟨[],[]⟩)=(cj t,m):=by
        rw [List.getD_eq_getElem?_getD]
        unfold CP
        rw [List.getElem?_zip_eq_some (z:=(cj t,m)) |>.2 ⟨by rw [List.getElem?_map,ht];rfl,hmm⟩]
        rfl
      have hnx:Ip (CP l ms) (i+1) out=f9 (cj t) m i (Ip (CP l ms) i out):=by rw [Ip,hLi]
      have hokm:=hok i m hmm
      have hbdm:=hbd i m hmm
      generalize Ip (CP l ms) i out=q0 at hRl hnx hokm hbdm
      obtain ⟨Z,mo⟩:=q0
      simp only at hRl hokm hbdm
      have hZl:Z.length=l.length:=by omega
      have hZm:(Z.map (V.int .i64)).length=Z.length:=by simp
      obtain ⟨o,ho⟩:∃o,Z[i]?=some o:=⟨_,List.getElem?_eq_getElem (by omega)⟩
      have go:(Z.map (V.int .i64))[0+Int.toNat (i:Int)]?=some (.int .i64 o):=by rw [Nat.zero_add,Int.toNat_natCast,List.getElem?_map,ho];rfl
      have hoD:Z.getD i 0=o:=by rw [List.getD_eq_getElem?_getD,ho];rfl
      unfold f9 at hnx
      simp only [hoD] at hnx
      have hset:∀v:Int,(Z.map (V.int .i64)).set (0+Int.toNat (i:Int)) (.int .i64 v)=(Z.set i v).map (V.int .i64):=fun v=>by rw [Nat.zero_add,Int.toNat_natCast,List.map_set]
      by_cases hnm:t.name=[]
      . have hb:cj t=false:=by unfold cj;rw [hnm];rfl
        rw [hb] at hnx
        simp only [Bool.false_eq_true,false_and,if_false] at hnx
        by_cases hc:o=0∨1 < o
        . rw [if_pos hc] at hnx
          rcases hc with hc|hc
          . conv=>whnf
            repeat' (first|(refine AN (by first|assumption|omega) ?_;conv=>whnf)|(refine Af (by first|assumption|omega) ?_;conv=>whnf)|(refine AS (by omega) ?_;conv=>whnf)|(refine AQ (by assumption) ?_;conv=>whnf))
            all_goals first
            | (exfalso;omega)
            | (refine AL [0,2,20,21,22] [3] (i+1) hlt (by omega) ?_
               conv=>whnf
               rw [hnx]
               simp only [hset,AA _ (AE _)]
               rfl)
          . by_cases ho0:o=0
            all_goals
              conv=>whnf
              repeat' (first|(refine AN (by first|assumption|omega) ?_;conv=>whnf)|(refine AM (by first|assumption|omega) ?_;conv=>whnf)|(refine Af (by first|assumption|omega) ?_;conv=>whnf)|(refine AS (by omega) ?_;conv=>whnf)|(refine AQ (by assumption) ?_;conv=>whnf))
              all_goals first
              | (exfalso;omega)
              | (refine AL [0,2,20,21,22] [3] (i+1) hlt (by omega) ?_
                 conv=>whnf
                 rw [hnx]
                 simp only [hset,AA _ (AE _)]
                 rfl)
        . rw [if_neg hc] at hnx
          have hc1:¬o=0:=fun h=>hc (.inl h)
          have hc2:¬1 < o:=fun h=>hc (.inr h)
          conv=>whnf
          repeat' (first|(refine AN (by first|assumption|omega) ?_;conv=>whnf)|(refine AM (by first|assumption|omega) ?_;conv=>whnf)|(refine Af (by first|assumption|omega) ?_;conv=>whnf)|(refine AS (by omega) ?_;conv=>whnf)|(refine AQ (by assumption) ?_;conv=>whnf))
          all_goals first
          | (exfalso;omega)
          | (refine AL [0,2,20,21,22] [3] (i+1) hlt (by omega) ?_
             conv=>whnf
             rw [hnx]
             simp only [AA _ (AE _)]
             rfl)
      . have hb:cj t=true:=by unfold cj;cases h:t.name with|nil=>exact absurd h hnm|cons a b=>rfl
        rw [hb] at hnx
        simp only [true_and,if_true] at hnx
        obtain ⟨y,hy⟩:∃y,(Nr Z m)[0]?=some y:=⟨_,List.getElem?_eq_getElem (by rw [Z2];exact dv hokm)⟩
        have gy:((Nr Z m).map (V.int .i64))[Int.toNat 0]?=some (.int .i64 y):=by show ((Nr Z m).map (V.int .i64))[0]?=_;rw [List.getElem?_map,hy];rfl
        have hyD:(Nr Z m).getD 0 0=y:=by rw [List.getD_eq_getElem?_getD,hy];rfl
        have hyb:=hbdm y (List.mem_of_getElem? hy)
        rw [hyD] at hnx
        have h0Z:(some (some (Ob.row 3 [.agg [.lst (l.map DH),.lst (ms.map Bs),.sl 2 0 l.length]])):Option (Option Ob))=some (some (.row 3 [.agg [.lst (l.map DH),.lst (ms.map Bs),.sl 2 0 Z.length]])):=by rw [hZl]
        by_cases hy0:y < 0
        . rw [if_pos hy0] at hnx
          conv=>whnf
          repeat' (first|(refine AN (by first|assumption|omega) ?_;conv=>whnf)|(refine AM (by first|assumption|omega) ?_;conv=>whnf)|(refine Af (by first|assumption|omega) ?_;conv=>whnf)|(refine AS (by omega) ?_;conv=>whnf)|(refine AQ (by assumption) ?_;conv=>whnf)|(refine HH [some (.row 3 [.agg [.lst (l.map DH),.lst (ms.map Bs),.sl 2 0 Z.length]]),some (.hid vs [.ptr 0 0 0]),some (.row 1 (Z.map (V.int .i64))),some (.row 3 [DH t])] (KV hokm (l.map DH) (ms.map Bs)) hC GA rfl ⟨trivial,trivial,trivial⟩ h0Z rfl ?_ ?_;((conv=>whnf);rfl);(unfold AY;conv=>whnf)))
          all_goals first
          | (exfalso;omega)
          | (refine AL [0,2,20,21,22] [3] (i+1) hlt (by omega) ?_
             conv=>whnf
             rw [hnx]
             simp only [hZl,AA _ (AE _)]
             rfl)
        . rw [if_neg hy0] at hnx
          by_cases hc:o=0∨1+y < o
          . rw [if_pos hc] at hnx
            rcases hc with hc|hc
            . conv=>whnf
              repeat' (first|(refine AN (by first|assumption|omega) ?_;conv=>whnf)|(refine AM (by first|assumption|omega) ?_;conv=>whnf)|(refine Af (by first|assumption|omega) ?_;conv=>whnf)|(refine AS (by omega) ?_;conv=>whnf)|(refine AQ (by assumption) ?_;conv=>whnf)|(refine HH [some (.row 3 [.agg [.lst (l.map DH),.lst (ms.map Bs),.sl 2 0 Z.length]]),some (.hid vs [.ptr 0 0 0]),some (.row 1 (Z.map (V.int .i64))),some (.row 3 [DH t])] (KV hokm (l.map DH) (ms.map Bs)) hC GA rfl ⟨trivial,trivial,trivial⟩ h0Z rfl ?_ ?_;((conv=>whnf);rfl);(unfold AY;conv=>whnf)))
              all_goals first
              | (exfalso;omega)
              | (refine AL [0,2,20,21,22] [3] (i+1) hlt (by omega) ?_
                 conv=>whnf
                 rw [hnx]
                 simp only [hset,hZl,AA _ (AE _)]
                 rfl)
            . by_cases ho0:o=0
              all_goals
                conv=>whnf
                repeat' (first|(refine AN (by first|assumption|omega) ?_;conv=>whnf)|(refine AM (by first|assumption|omega) ?_;conv=>whnf)|(refine Af (by first|assumption|omega) ?_;conv=>whnf)|(refine AS (by omega) ?_;conv=>whnf)|(refine AQ (by assumption) ?_;conv=>whnf)|(refine HH [some (.row 3 [.agg [.lst (l.map DH),.lst (ms.map Bs),.sl 2 0 Z.length]]),some (.hid vs [.ptr 0 0 0]),some (.row 1 (Z.map (V.int .i64))),some (.row 3 [DH t])] (KV hokm (l.map DH) (ms.map Bs)) hC GA rfl ⟨trivial,trivial,trivial⟩ h0Z rfl ?_ ?_;((conv=>whnf);rfl);(unfold AY;conv=>whnf)))
                all_goals first
                | (exfalso;omega)
                | (refine AL [0,2,20,21,22] [3] (i+1) hlt (by omega) ?_
                   conv=>whnf
                   rw [hnx]
                   simp only [hset,hZl,AA _ (AE _)]
                   rfl)
          . rw [if_neg hc] at hnx
            have hc1:¬o=0:=fun h=>hc (.inl h)
            have hc2:¬1+y < o:=fun h=>hc (.inr h)
            conv=>whnf
            repeat' (first|(refine AN (by first|assumption|omega) ?_;conv=>whnf)|(refine AM (by first|assumption|omega) ?_;conv=>whnf)|(refine Af (by first|assumption|omega) ?_;conv=>whnf)|(refine AS (by omega) ?_;conv=>whnf)|(refine AQ (by assumption) ?_;conv=>whnf)|(refine HH [some (.row 3 [.agg [.lst (l.map DH),.lst (ms.map Bs),.sl 2 0 Z.length]]),some (.hid vs [.ptr 0 0 0]),some (.row 1 (Z.map (V.int .i64))),some (.row 3 [DH t])] (KV hokm (l.map DH) (ms.map Bs)) hC GA rfl ⟨trivial,trivial,trivial⟩ h0Z rfl ?_ ?_;((conv=>whnf);rfl);(unfold AY;conv=>whnf)))
            all_goals first
            | (exfalso;omega)
            | (refine AL [0,2,20,21,22] [3] (i+1) hlt (by omega) ?_
               conv=>whnf
               rw [hnx]
               simp only [hZl,AA _ (AE _)]
               rfl)
    . obtain rfl:i=l.length:=by omega
      conv=>whnf
      repeat' (refine AM (by first|assumption|omega) ?_;conv=>whnf)
      refine AJ [0,2] (k+1) hkR (by omega) ?_
      conv=>whnf
      rw [hstep]
  . obtain rfl:k=R:=by omega
    rw [show HG (CP l ms) k z0=((HG (CP l ms) k z0).1,false) from Prod.ext rfl hend]
    generalize (HG (CP l ms) k z0).1=out at*
    have hom:(out.map (V.int .i64)).length=out.length:=by simp
    conv=>whnf
    skip
    refine Aq (AO 2 rfl (AE out) (Ax [some (.row 3 [.agg [.lst (l.map DH),.lst (ms.map Bs),AY out]]),some (.hid vs [.ptr 0 0 0]),none] ?_ (AP (BK hE ?_))))
    . conv=>whnf
      have e1:(V.sl 2 0 l.length).frz 2 (out.map (V.int .i64))= .lst (out.map (V.int .i64)):=BY 2 _ (by omega)
      have fa:∀id els l,(V.agg l).frz id els= .agg (An id els l):=fun _ _ _=>by simp only [V.frz]
      have fl:∀id els l,(V.lst l).frz id els= .lst l:=fun _ _ _=>by simp only [V.frz]
      simp only [An,fa,e1,fl]
      rfl
    . conv=>whnf
      exact ⟨rfl,rfl,rfl,rfl⟩
end Go.Proofs.YtkaiffheakalmaaGreatDoor
namespace Go.Proofs.YtkaiffheakalmaaGreatDoor
open Go.RowKit
theorem R4 {L0:L2} {R:List (List Int)} {G:List Bool} {r:V} (hc:CanonM L0 R G) (h40:R.length≤40) (h:gk L0 r):r= .tup [Bs ⟨R,G⟩,.int .i64 0]:=by
  rcases h with ⟨hd,_⟩|⟨R',G',hc',e⟩
  . exfalso
    obtain ⟨ls,hls,_⟩:=hc.ex
    have h0:=hls.inv.first
    exact hls.inv.live _ (List.mem_of_getElem? h0) hd
  . obtain ⟨rfl,rfl⟩:=U7 hc hc'
    rw [e,if_pos h40]
    rfl
theorem VJ {N:List (List Int)} {F:List Bool} {n:Nat} {C:List Int} {Ws:List (List Nat)} {S:List Nat} {R:List (List Int)} {G:List Bool} (hWF:WFp n N F) (h1:1≤n) (hn2:n≤1048575) (hc:On (D3 n N) (DG F) C Ws S R G=true) (h40:R.length≤40):
    Fn1G Tryz.prog GT 25 [Cb N F] (fun r=>r= .tup [Bs ⟨R,G⟩,.int .i64 0]):=
  fun w I vs hg hl hv hi=>(QW hWF h1 hn2 w I vs hg hl hv hi).mono fun _ _ ⟨v,r,I',a,b,c⟩=>⟨v,r,I',a,R4 (VG hc) h40 b,c⟩
end Go.Proofs.YtkaiffheakalmaaGreatDoor
namespace Go.Proofs.YtkaiffheakalmaaGreatDoor
open Go.RowKit Go.ChangeShapes Go.WideShapes Go.ChangeAt
def Xp (x:Ex):Int:=if Lg x≠0 then Lg x else if 40 < (OX x).length then 1 else 0
def jG (x:Ex):List V:=[.int .i64 x.kind,.int .i64 x.type,.lst (JK x.parts)]
theorem Ou (x:Ex):V.agg (jG x)= .agg [.int .i64 x.kind,.int .i64 x.type,.lst (x.parts.map Ai)]:=by unfold jG;rw [Lf]
theorem R5 (x:Ex):Ex.mk x.kind x.type x.parts=x:=by cases x;rfl
theorem Hw (x:Ex) (hx:EY x≤1048576):Fn1 Tryz.prog 18 [.agg (jG x)] (fun r=>r= .int .i64 (Xp x)):=by
  rw [Ou]
  have hsz:A7 x.parts≤1048576:=by cases x;rw [CV] at hx;show A7 _≤_;simp only [Ex.parts];omega
  have h1:=Rg (A7 x.parts) x.kind x.type x.parts (Nat.le_refl _)
  have h2:=Uy (A7 x.parts) x.kind x.type x.parts (Nat.le_refl _) hsz
  have hl:=OZ (EY x) x (Nat.le_refl _)
  rw [R5] at h1 h2
  refine A4 (T:=Tryz.tt) Tryz.func18 rfl AR AB ?_ ?_ fun C hC hE=>?_
  . kernel_rfl
  . exact Nat.le_of_ble_eq_true (by kernel_rfl)
  conv=>whnf
  repeat' (first|(refine AC (h1) hC MV ?_ ?_ ?_;kernel_rfl;kernel_rfl;conv=>whnf)|(refine AC (h2 (by omega)) hC MW ?_ ?_ ?_;kernel_rfl;kernel_rfl;conv=>whnf)|(refine He (fun h=>?_) (fun h=>?_)<;>conv=>whnf)|(refine AH hE ?_;conv=>whnf)|(intro hlen;conv=>whnf))
  all_goals (refine ⟨rfl,congrArg (V.int .i64) ?_⟩;unfold Xp;(repeat' split);all_goals first|rfl|omega)
theorem dw {x:Ex} (h:Xp x=0):Lg x=0:=by
  unfold Xp at h
  split at h
  . contradiction
  . omega
end Go.Proofs.YtkaiffheakalmaaGreatDoor
namespace Go.Proofs.YtkaiffheakalmaaGreatDoor
open Go.RowKit
def HT (x:Ex):Ps:=(BO x ⟨[],[]⟩).2
def Qx (x:Ex):Pt:=(BO x ⟨[],[]⟩).1
def iB (x:Ex) (i:Nat):Kn×List (List Int):=GK (HT x) (Ag (HT x).T.length (Qx x).last) (Qx x) i
set_option maxHeartbeats 4000000 in
theorem Bl (x:Ex) (hx:EY x≤1048576) (hc:Xp x=0) (R:Nat) (hO:OkSets (HT x) (Qx x) R) (h1:1≤R) {N:List (List Int)} {F:List Bool} (hN:(iB x R).2=N) (hF:((iB x R).1.map fun q=>q.2)=F) (hWF:WFp R N F)
    {C:List Int} {Ws:List (List Nat)} {S:List Nat} {Rm:List (List Int)} {G:List Bool} (hcan:On (D3 R N) (DG F) C Ws S Rm G=true) (h40:Rm.length≤40):
    Fn1G Tryz.prog GT 12 [Ai x] (fun r=>r= .tup [Bs ⟨Rm,G⟩,.int .i64 0]):=by
  have hs:Fn1G Tryz.prog GT 24 [Ai x] (fun r=>r=Cb N F):=by
    rw [←hN,←hF]
    exact VB x R hO
  have ho:=VJ hWF h1 (by have:=hO.rl;omega) hcan h40
  have hk:=Hw x hx
  rw [hc] at hk
  obtain ⟨k,t,ps⟩:=x
  rw [Cs] at hs ⊢
  rw [Ou] at hk
  dsimp only [Ex.kind,Ex.type,Ex.parts] at hk
  unfold Cb at hs ho
  unfold Bs at ho ⊢
  refine Gm (T:=Tryz.tt) Tryz.func12 rfl AR AB ?_ ?_ fun C hC hW hG hE=>?_
  . kernel_rfl
  . exact Nat.le_of_ble_eq_true (by kernel_rfl)
  conv=>whnf
  have hs':=hs.c hC hW DQ hG
  have ho':=ho.c hC hW DQ hG
  repeat' (first|(refine AN (by first|assumption|omega) ?_;conv=>whnf)|(refine AC (hk) hC F7 ?_ ?_ ?_;kernel_rfl;kernel_rfl;conv=>whnf)|(refine Cx (hs') hC SZ rfl ?_ ?_ ?_;kernel_rfl;kernel_rfl;conv=>whnf)|(refine Cx (ho') hC Sa rfl ?_ ?_ ?_;kernel_rfl;kernel_rfl;conv=>whnf)|(refine AH hE ?_;conv=>whnf))
  exact ⟨rfl,rfl⟩
end Go.Proofs.YtkaiffheakalmaaGreatDoor
