/- Copied, stripped. No conditions. -/
import Derived.Test.YtkaiffheakalmaaGreatDoorU9TlZb
import Derived.Test.YtkaiffheakalmaaGreatDoorU9TlZa
import Derived.Test.YtkaiffheakalmaaGreatDoorU9Data
import Derived.Test.YtkaiffheakalmaaGreatDoorU9TlZc
import Derived.Test.YtkaiffheakalmaaGreatDoorU9TlZh
set_option linter.unusedSimpArgs false
set_option linter.unusedVariables false
set_option maxRecDepth 100000
namespace Go.Proofs.YtkaiffheakalmaaGreatDoor
def Dh (T:List (List Int)) (i c:Nat):Nat:=(((T[i]?.getD [])[c]?).getD 0).toNat
def DW (F:List Bool) (i:Nat):Bool:=(F[i]?).getD false
theorem U6 (r:List Bool) (k:Nat) (h:r[k]?=some false):((r.set k true).countP fun b=>!b)+1=r.countP fun b=>!b:=by
  induction r generalizing k with
  | nil=>simp at h
  | cons a r ih=>
    cases k with
    | zero=>simp at h;subst h;simp
    | succ k=>simp at h;have:=ih k h;simp [List.countP_cons];omega
section
variable {T:List (List Int)} {F:List Bool} {n:Nat} {D0 D:List (List Bool)} {more:Bool} {i k c:Nat}
end
end Go.Proofs.YtkaiffheakalmaaGreatDoor
namespace Go.Proofs.YtkaiffheakalmaaGreatDoor
abbrev L2:=List Nat→Bool
def YV (L:L2) (c:Nat):L2:=fun w=>L (c::w)
def Il (L:L2):Prop:=∀w,L w=false
def CH (T:List (List Int)) (F:List Bool) (x:Nat):L2:=fun w=>w.all (fun c=>decide (c < 8))&&DW F (w.foldl (Dh T) x)
theorem Gt {T:List (List Int)} {F:List Bool} {x c:Nat} (hc:c < 8):CH T F (Dh T x c)=YV (CH T F x) c:=by
  funext w
  simp [CH,YV,hc]
theorem KS {T:List (List Int)} {F:List Bool} {x:Nat}:CH T F x []=DW F x:=by simp [CH]
theorem Ts {T T':List (List Int)} {F F':List Bool} {x y:Nat} (h:∀w,EC w→DW F (w.foldl (Dh T) x)=DW F' (w.foldl (Dh T') y)):CH T F x=CH T' F' y:=by
  funext w
  unfold CH
  by_cases hw:EC w
  . rw [h w hw]
  . have:w.all (fun c=>decide (c < 8))=false:=by
      rw [Bool.eq_false_iff]
      intro e
      exact hw fun c hc=>of_decide_eq_true (List.all_eq_true.1 e c hc)
    rw [this,Bool.false_and,Bool.false_and]
structure BInv (L0:L2) (ls:List L2) (W:List Int):Prop where
  first:ls[0]?=some L0
  live:∀L∈ls,¬Il L
  nodup:∀(i j:Nat) (L:L2),ls[i]?=some L→ls[j]?=some L→i=j
  bound:W.length≤8*ls.length
  step:∀(p:Nat) (v:Int),W[p]?=some v→∃L,ls[p / 8]?=some L∧((v= -1∧Il (YV L (p % 8)))∨∃j:Nat,v=j∧ls[j]?=some (YV L (p % 8)))
  order:∀j:Nat,1≤j→j < ls.length→∃p:Nat,p / 8 < j∧W[p]?=some (j:Int)∧∀q,q < p→∀v,W[q]?=some v→v < j
theorem BInv.start {L0:L2} (h:¬Il L0):BInv L0 [L0] [] where
  first:=rfl
  live:=fun L hL=>by simp at hL;subst hL;exact h
  nodup:=fun i j L hi hj=>by
    have h1:=(List.getElem?_eq_some_iff.1 hi).1
    have h2:=(List.getElem?_eq_some_iff.1 hj).1
    simp at h1 h2
    omega
  bound:=by simp
  step:=fun p v h=>by simp at h
  order:=fun j h1 h2=>by simp at h2;omega
section
variable {L0:L2} {ls:List L2} {W:List Int}
theorem C1 {α:Type} {l:List α} {x y:α} {p:Nat} (h:(l++[x])[p]?=some y):l[p]?=some y∨(p=l.length∧y=x):=by
  rw [List.getElem?_append] at h
  split at h
  . exact .inl h
  . match hk:p - l.length with
    | 0=>rw [hk] at h;cases h;exact .inr ⟨by omega,rfl⟩
    | k+1=>rw [hk] at h;simp at h
theorem FH {α:Type} {l m:List α} {y:α} {p:Nat} (h:l[p]?=some y):(l++m)[p]?=some y:=by
  rw [List.getElem?_append_left (List.getElem?_eq_some_iff.1 h).1]
  exact h
theorem BInv.vals (h:BInv L0 ls W) {p:Nat} {v:Int} (hv:W[p]?=some v):v < ls.length:=by
  obtain ⟨L,h1,h2|⟨j,rfl,h2⟩⟩:=h.step p v hv
  . have:=(List.getElem?_eq_some_iff.1 h1).1
    omega
  . have:=(List.getElem?_eq_some_iff.1 h2).1
    omega
theorem BInv.put (h:BInv L0 ls W) {L:L2} (hL:ls[W.length / 8]?=some L) {v:Int} (hv:(v= -1∧Il (YV L (W.length % 8)))∨∃j:Nat,v=j∧ls[j]?=some (YV L (W.length % 8))):BInv L0 ls (W++[v]) where
  first:=h.first
  live:=h.live
  nodup:=h.nodup
  bound:=by
    have:=(List.getElem?_eq_some_iff.1 hL).1
    simp
    omega
  step:=fun p u hu=>by
    rcases C1 hu with hu|⟨rfl,rfl⟩
    . exact h.step p u hu
    . exact ⟨L,hL,hv⟩
  order:=fun j h1 h2=>by
    obtain ⟨p,a,b,c⟩:=h.order j h1 h2
    refine ⟨p,a,FH b,fun q hq u hu=>?_⟩
    rcases C1 hu with hu|⟨rfl,rfl⟩
    . exact c q hq u hu
    . have:=(List.getElem?_eq_some_iff.1 b).1
      omega
theorem BInv.grow (h:BInv L0 ls W) {L:L2} (hL:ls[W.length / 8]?=some L) (hn:YV L (W.length % 8)∉ls) (hd:¬Il (YV L (W.length % 8))):BInv L0 (ls++[YV L (W.length % 8)]) (W++[(ls.length:Int)]) where
  first:=FH h.first
  live:=fun M hM=>by
    rcases List.mem_append.1 hM with hM|hM
    . exact h.live M hM
    . simp at hM;subst hM;exact hd
  nodup:=fun i j M hi hj=>by
    rcases C1 hi with hi|⟨rfl,rfl⟩
    . rcases C1 hj with hj|⟨rfl,rfl⟩
      . exact h.nodup i j M hi hj
      . exact absurd (List.mem_of_getElem? hi) hn
    . rcases C1 hj with hj|⟨rfl,_⟩
      . exact absurd (List.mem_of_getElem? hj) hn
      . rfl
  bound:=by
    have:=(List.getElem?_eq_some_iff.1 hL).1
    simp
    omega
  step:=fun p u hu=>by
    rcases C1 hu with hu|⟨rfl,rfl⟩
    . obtain ⟨M,a,b⟩:=h.step p u hu
      exact ⟨M,FH a,b.imp id fun ⟨j,c,d⟩=>⟨j,c,FH d⟩⟩
    . exact ⟨L,FH hL,.inr ⟨ls.length,rfl,by simp⟩⟩
  order:=fun j h1 h2=>by
    by_cases hj:j < ls.length
    . obtain ⟨p,a,b,c⟩:=h.order j h1 hj
      refine ⟨p,a,FH b,fun q hq u hu=>?_⟩
      rcases C1 hu with hu|⟨rfl,rfl⟩
      . exact c q hq u hu
      . have:=(List.getElem?_eq_some_iff.1 b).1
        omega
    . have hj':j=ls.length:=by simp at h2;omega
      subst hj'
      refine ⟨W.length,(List.getElem?_eq_some_iff.1 hL).1,by simp,fun q hq u hu=>?_⟩
      rcases C1 hu with hu|⟨rfl,rfl⟩
      . exact h.vals hu
      . omega
structure Canon (L0:L2) (ls:List L2) (W:List Int):Prop where
  inv:BInv L0 ls W
  full:W.length=8*ls.length
theorem Canon.at (h:Canon L0 ls W) {p:Nat} (hp:p / 8 < ls.length):∃v,W[p]?=some v:=⟨_,List.getElem?_eq_getElem (by rw [h.full];omega)⟩
theorem Ht {ls':List L2} {W':List Int} (h:Canon L0 ls W) (h':Canon L0 ls' W') {j:Nat} (ih:∀i,i < j→∀L L',ls[i]?=some L→ls'[i]?=some L'→L=L') (h1:1≤j) (hj:j < ls.length) (hj':j≤ls'.length):
    ∃(p k:Nat) (L:L2),ls[j]?=some L∧(∀q,q < p→∀v,W[q]?=some v→v < j)∧W[p]?=some (j:Int)∧W'[p]?=some (k:Int)∧ls'[k]?=some L∧j≤k:=by
  obtain ⟨p,a,b,c⟩:=h.inv.order j h1 hj
  obtain ⟨M,hM,hs⟩:=h.inv.step p j b
  have hs2:ls[j]?=some (YV M (p % 8)):=by
    rcases hs with ⟨e,_⟩|⟨i,e,hs⟩
    . omega
    . obtain rfl:j=i:=by omega
      exact hs
  have hlive:=h.inv.live _ (List.mem_of_getElem? hs2)
  obtain ⟨M',hM'⟩:∃M',ls'[p / 8]?=some M':=⟨_,List.getElem?_eq_getElem (by omega)⟩
  obtain rfl:=ih _ a M M' hM hM'
  obtain ⟨v,hv⟩:=h'.at (p:=p) (by omega)
  obtain ⟨M2,hM2,hs'⟩:=h'.inv.step p v hv
  rw [hM'] at hM2
  cases hM2
  rcases hs' with ⟨_,hd⟩|⟨k,rfl,hk⟩
  . exact absurd hd hlive
  . refine ⟨p,k,_,hs2,c,b,hv,hk,Decidable.byContradiction fun hlt=>?_⟩
    obtain ⟨K,hK⟩:∃K,ls[k]?=some K:=⟨_,List.getElem?_eq_getElem (by omega)⟩
    have:=ih k (by omega) K _ hK hk
    subst this
    have:=h.inv.nodup k j _ hK hs2
    omega
theorem L3 {ls':List L2} {W':List Int} (h:Canon L0 ls W) (h':Canon L0 ls' W'):∀(j:Nat) (L L':L2),ls[j]?=some L→ls'[j]?=some L'→L=L':=by
  intro j
  induction j using Nat.strongRecOn with
  | _ j ih=>
    intro L L' hL hL'
    by_cases h0:j=0
    . subst h0
      rw [h.inv.first] at hL
      rw [h'.inv.first] at hL'
      cases hL;cases hL';rfl
    . have l1:=(List.getElem?_eq_some_iff.1 hL).1
      have l2:=(List.getElem?_eq_some_iff.1 hL').1
      obtain ⟨p,k,K,a1,a2,a3,a4,a5,a6⟩:=Ht h h' ih (by omega) l1 (by omega)
      obtain ⟨q,m,M,b1,b2,b3,b4,b5,b6⟩:=Ht h' h (fun i hi X Y hX hY=>(ih i hi Y X hY hX).symm) (by omega) l2 (by omega)
      rw [hL] at a1
      cases a1
      rw [hL'] at b1
      cases b1
      rcases Nat.lt_trichotomy p q with hpq|rfl|hpq
      . have:=b2 p hpq _ a4
        omega
      . rw [a4] at b3
        simp only [Option.some.injEq,Int.natCast_inj] at b3
        subst b3
        rw [hL'] at a5
        cases a5
        rfl
      . have:=a2 q hpq _ b4
        omega
theorem Np {ls':List L2} {W':List Int} (h:Canon L0 ls W) (h':Canon L0 ls' W'):ls.length≤ls'.length:=by
  refine Decidable.byContradiction fun hn=>?_
  have h0:=(List.getElem?_eq_some_iff.1 h'.inv.first).1
  obtain ⟨p,k,K,a1,a2,a3,a4,a5,a6⟩:=Ht h h' (j:=ls'.length) (fun i _=>L3 h h' i) (by omega) (by omega) (Nat.le_refl _)
  have:=(List.getElem?_eq_some_iff.1 a5).1
  omega
theorem XY {ls':List L2} {W':List Int} (h:Canon L0 ls W) (h':Canon L0 ls' W'):ls=ls'∧W=W':=by
  have hl:ls.length=ls'.length:=Nat.le_antisymm (Np h h') (Np h' h)
  have e:ls=ls':=by
    apply List.ext_getElem?
    intro i
    by_cases hi:i < ls.length
    . rw [List.getElem?_eq_getElem hi,List.getElem?_eq_getElem (by omega)]
      exact congrArg some (L3 h h' i _ _ (List.getElem?_eq_getElem hi) (List.getElem?_eq_getElem (by omega)))
    . rw [List.getElem?_eq_none (by omega),List.getElem?_eq_none (by omega)]
  subst e
  refine ⟨rfl,?_⟩
  have hw:W.length=W'.length:=by rw [h.full,h'.full]
  apply List.ext_getElem?
  intro p
  by_cases hp:p < W.length
  . obtain ⟨v,hv⟩:∃v,W[p]?=some v:=⟨_,List.getElem?_eq_getElem hp⟩
    obtain ⟨v',hv'⟩:∃v,W'[p]?=some v:=⟨_,List.getElem?_eq_getElem (by omega)⟩
    rw [hv,hv']
    obtain ⟨L,a,b⟩:=h.inv.step p v hv
    obtain ⟨L',a',b'⟩:=h'.inv.step p v' hv'
    rw [a] at a'
    cases a'
    rcases b with ⟨rfl,b⟩|⟨j,rfl,b⟩<;>rcases b' with ⟨rfl,b'⟩|⟨j',rfl,b'⟩
    . rfl
    . exact absurd b (h.inv.live _ (List.mem_of_getElem? b'))
    . exact absurd b' (h.inv.live _ (List.mem_of_getElem? b))
    . rw [h.inv.nodup j j' _ b b']
  . rw [List.getElem?_eq_none (by omega),List.getElem?_eq_none (by omega)]
structure CanonM (L0:L2) (R:List (List Int)) (G:List Bool):Prop where
  ex:∃ls,Canon L0 ls R.flatten∧G=ls.map fun L=>L []
  row:∀r∈R,r.length=8
theorem Zr {R R':List (List Int)} (h:∀r∈R,r.length=8) (h':∀r∈R',r.length=8) (e:R.flatten=R'.flatten):R=R':=by
  induction R generalizing R' with
  | nil=>
    cases R' with
    | nil=>rfl
    | cons r' R'=>
      have h8:=h' r' (by simp)
      rw [List.flatten_cons,List.flatten_nil] at e
      have:=congrArg List.length e
      rw [List.length_append,h8,List.length_nil] at this
      omega
  | cons r R ih=>
    cases R' with
    | nil=>
      have h8:=h r (by simp)
      rw [List.flatten_cons,List.flatten_nil] at e
      have:=congrArg List.length e
      rw [List.length_append,h8,List.length_nil] at this
      omega
    | cons r' R'=>
      rw [List.flatten_cons,List.flatten_cons] at e
      obtain ⟨e1,e2⟩:=List.append_inj e (by rw [h r (by simp),h' r' (by simp)])
      rw [e1,ih (fun q hq=>h q (by simp [hq])) (fun q hq=>h' q (by simp [hq])) e2]
theorem U7 {R R':List (List Int)} {G G':List Bool} (h:CanonM L0 R G) (h':CanonM L0 R' G'):R=R'∧G=G':=by
  obtain ⟨ls,h1,h2⟩:=h.ex
  obtain ⟨ls',h1',h2'⟩:=h'.ex
  obtain ⟨e1,e2⟩:=XY h1 h1'
  exact ⟨Zr h.row h'.row e2,by rw [h2,h2',e1]⟩
end
end Go.Proofs.YtkaiffheakalmaaGreatDoor
namespace Go.Proofs.YtkaiffheakalmaaGreatDoor
structure WF (n:Nat) (N:List (List Int)) (F:List Bool):Prop where
  lenN:N.length=n
  lenF:F.length=n
  rows:∀r∈N,r.length=8∧∀x∈r,0≤x∧x < n
theorem WF.get {n:Nat} {N:List (List Int)} {F:List Bool} (h:WF n N F) {i c:Nat} (hi:i < n) (hc:c < 8):∃(row:List Int) (x:Int),N[i]?=some row∧row.length=8∧row[c]?=some x∧0≤x∧x < n∧Dh N i c=x.toNat:=by
  obtain ⟨row,hrow⟩:∃b,N[i]?=some b:=⟨_,List.getElem?_eq_getElem (by rw [h.lenN];exact hi)⟩
  obtain ⟨h8,hx⟩:=h.rows row (List.mem_of_getElem? hrow)
  obtain ⟨x,hxc⟩:∃b,row[c]?=some b:=⟨_,List.getElem?_eq_getElem (by omega)⟩
  obtain ⟨h1,h2⟩:=hx x (List.mem_of_getElem? hxc)
  exact ⟨row,x,hrow,h8,hxc,h1,h2,by simp [Dh,hrow,hxc]⟩
theorem WF.nx {n:Nat} {N:List (List Int)} {F:List Bool} (h:WF n N F) {i c:Nat} (hi:i < n) (hc:c < 8):Dh N i c < n:=by
  obtain ⟨_,x,_,_,_,h1,h2,e⟩:=h.get hi hc
  rw [e];omega
theorem WF.fin {n:Nat} {N:List (List Int)} {F:List Bool} (h:WF n N F) {i:Nat} (hi:i < n):F[i]?=some (DW F i):=by
  obtain ⟨b,hb⟩:∃b,F[i]?=some b:=⟨_,List.getElem?_eq_getElem (by rw [h.lenF];exact hi)⟩
  simp [DW,hb]
def Bf (N:List (List Int)) (F:List Bool) (i:Nat):Prop:=∃w,EC w∧DW F (w.foldl (Dh N) i)=true
theorem Di {N:List (List Int)} {F:List Bool} {i:Nat}:Bf N F i↔¬Il (CH N F i):=by
  constructor
  . rintro ⟨w,hw,hf⟩ hd
    have:=hd w
    unfold CH at this
    rw [hf,Bool.and_true] at this
    have e:w.all (fun c=>decide (c < 8))=true:=List.all_eq_true.2 fun c hc=>decide_eq_true (hw c hc)
    rw [e] at this
    cases this
  . intro hd
    refine Classical.byContradiction fun hn=>hd fun w=>?_
    unfold CH
    by_cases hw:w.all (fun c=>decide (c < 8))=true
    . have hok:EC w:=fun c hc=>of_decide_eq_true (List.all_eq_true.1 hw c hc)
      have:DW F (w.foldl (Dh N) i)=false:=by
        cases h:DW F (w.foldl (Dh N) i) with
        | false=>rfl
        | true=>exact absurd ⟨w,hok,h⟩ hn
      rw [this,Bool.and_false]
    . have:w.all (fun c=>decide (c < 8))=false:=by simpa using hw
      rw [this,Bool.false_and]
def bt (D:List Bool) (i:Nat):Bool:=(D[i]?).getD false
def YW (D:List Bool):Nat:=D.countP fun b=>!b
structure Lsd (N:List (List Int)) (F:List Bool) (n:Nat) (D:List Bool):Prop where
  len:D.length=n
  sound:∀i,i < n→bt D i=true→Bf N F i
  base:∀i,i < n→DW F i=true→bt D i=true
theorem Hu {D:List Bool} {n i:Nat} (h:D.length=n) (hi:i < n):D[i]?=some (bt D i):=by
  obtain ⟨b,hb⟩:∃b,D[i]?=some b:=⟨_,List.getElem?_eq_getElem (by omega)⟩
  simp [bt,hb]
theorem XZ {D:List Bool} {n i:Nat} (h:D.length=n) (hi:i < n) (j:Nat):bt (D.set i true) j=if j=i then true else bt D j:=by
  unfold bt
  rw [List.getElem?_set]
  by_cases e:i=j
  . subst e;simp [h,hi]
  . rw [if_neg e,if_neg (Ne.symm e)]
structure LInv (N:List (List Int)) (F:List Bool) (n:Nat) (D0 D:List Bool) (more:Bool) (i c:Nat):Prop where
  lsd:Lsd N F n D
  so:(more=false∧D=D0∧∀i' c',i' < n→c' < 8→(i' < i∨(i'=i∧c' < c))→bt D (Dh N i' c')=true→bt D i'=true)∨(more=true∧YW D < YW D0)
section
variable {N:List (List Int)} {F:List Bool} {n:Nat} {D0 D:List Bool} {more:Bool} {i c:Nat}
theorem LInv.start (h:Lsd N F n D):LInv N F n D D false 0 0:=⟨h,.inl ⟨rfl,rfl,fun i' c' _ _ h=>by omega⟩⟩
theorem LInv.pass (h:LInv N F n D0 D more i c) (hf:bt D (Dh N i c)=false∨bt D i=true):LInv N F n D0 D more i (c+1):=⟨h.lsd,h.so.imp (fun ⟨h1,h2,h3⟩=>⟨h1,h2,fun i' c' a d e f=>by
  by_cases hh:i'=i∧c'=c
  . obtain ⟨rfl,rfl⟩:=hh
    rcases hf with hf|hf
    . rw [hf] at f;cases f
    . exact hf
  . exact h3 i' c' a d (by omega) f⟩) id⟩
theorem LInv.row (h:LInv N F n D0 D more i c) (hc:8≤c):LInv N F n D0 D more (i+1) 0:=⟨h.lsd,h.so.imp (fun ⟨h1,h2,h3⟩=>⟨h1,h2,fun i' c' a d e f=>h3 i' c' a d (by omega) f⟩) id⟩
theorem LInv.put (h:LInv N F n D0 D more i c) (hnx:∀i c,i < n→c < 8→Dh N i c < n) (hi:i < n) (hc:c < 8) (hf:bt D i=false) (hd:bt D (Dh N i c)=true) (c':Nat):LInv N F n D0 (D.set i true) true i c':=by
  have hl:=h.lsd.len
  refine ⟨⟨by simp [hl],fun j hj e=>?_,fun j hj e=>?_⟩,.inr ⟨rfl,?_⟩⟩
  . rw [XZ hl hi] at e
    split at e
    . rename_i e2
      subst e2
      obtain ⟨w,hw,hn⟩:=h.lsd.sound _ (hnx j c hj hc) hd
      exact ⟨c::w,fun d hd=>by rcases List.mem_cons.1 hd with rfl|hd;exact hc;exact hw d hd,hn⟩
    . exact h.lsd.sound j hj e
  . rw [XZ hl hi]
    split
    . rfl
    . exact h.lsd.base j hj e
  . have h1:=U6 D i (by rw [Hu hl hi,hf])
    rcases h.so with ⟨_,rfl,_⟩|⟨_,h2⟩
    . unfold YW;omega
    . unfold YW at h2 ⊢;omega
theorem L4 (hnx:∀i c,i < n→c < 8→Dh N i c < n) (h:Lsd N F n D) (hc:∀i c,i < n→c < 8→bt D (Dh N i c)=true→bt D i=true):∀i,i < n→(bt D i=true↔Bf N F i):=by
  have key:∀(w:List Nat) (i:Nat),i < n→EC w→DW F (w.foldl (Dh N) i)=true→bt D i=true:=by
    intro w
    induction w with
    | nil=>exact fun i hi _ hf=>h.base i hi hf
    | cons c w ih=>exact fun i hi hw hf=>hc i c hi (hw c (by simp)) (ih _ (hnx i c hi (hw c (by simp))) (fun d hd=>hw d (by simp [hd])) hf)
  exact fun i hi=>⟨h.sound i hi,fun ⟨w,hw,hf⟩=>key w i hi hw hf⟩
theorem LInv.done (h:LInv N F n D0 D false i c) (hi:n≤i) (hnx:∀i c,i < n→c < 8→Dh N i c < n):∀i,i < n→(bt D i=true↔Bf N F i):=by
  rcases h.so with ⟨_,_,h3⟩|⟨h1,_⟩
  . exact L4 hnx h.lsd fun i' c' a b e=>h3 i' c' a b (by omega) e
  . cases h1
end
def ci (C:List Int) (i:Nat):Int:=(C[i]?).getD (-1)
def BP (N:List (List Int)) (C:List Int) (i:Nat):List Int:=ci C i::(List.range 8).map fun c=>ci C (Dh N i c)
structure Part (N:List (List Int)) (F:List Bool) (n:Nat) (C:List Int):Prop where
  len:C.length=n
  neg:∀i,i < n→¬Bf N F i→ci C i= -1
  pos:∀i,i < n→Bf N F i→0≤ci C i
  same:∀i j,i < n→j < n→CH N F i=CH N F j→ci C i=ci C j
  fin:∀i j,i < n→j < n→Bf N F i→ci C i=ci C j→DW F i=DW F j
def Xa (n:Nat) (C:List Int) (k:Nat):Prop:=(∀i,i < n→0≤ci C i→ci C i < k)∧∀j:Nat,j < k→∃i,i < n∧ci C i=j
structure Rnd (N:List (List Int)) (n:Nat) (C C':List Int) (M:List (List Int×Int)):Prop where
  len:C'.length=n
  neg:∀i,i < n→ci C i < 0→ci C' i= -1
  pos:∀i,i < n→0≤ci C i→Az (BP N C i) M=some (ci C' i)
  idx:∀(j:Nat) (q:List Int×Int),M[j]?=some q→q.2=(j:Int)∧∃i,i < n∧0≤ci C i∧q.1=BP N C i
  nodup:(M.map (·.1)).Nodup
section
variable {N:List (List Int)} {F:List Bool} {n:Nat} {C C':List Int} {M:List (List Int×Int)}
theorem QO {α:Type} [DecidableEq α] {a:α} {M:List (α×Int)} (hn:(M.map (·.1)).Nodup) {j:Nat} {v:Int} (h:M[j]?=some (a,v)):Az a M=some v:=by
  induction M generalizing j with
  | nil=>simp at h
  | cons q M ih=>
    rw [Df]
    cases j with
    | zero=>simp at h;subst h;simp
    | succ j=>
      simp only [List.getElem?_cons_succ] at h
      simp only [List.map_cons,List.nodup_cons] at hn
      rw [if_neg]
      . exact ih hn.2 h
      . intro e
        exact hn.1 (e▸List.mem_map.2 ⟨_,List.mem_of_getElem? h,rfl⟩)
theorem Rnd.val (h:Rnd N n C C' M) {i:Nat} (hi:i < n) (hp:0≤ci C i):∃j:Nat,ci C' i=j∧j < M.length∧M[j]?=some (BP N C i,(j:Int)):=by
  obtain ⟨j,hj⟩:=Ie (h.pos i hi hp)
  have:=(h.idx j _ hj).1
  exact ⟨j,this,(List.getElem?_eq_some_iff.1 hj).1,by rw [hj];exact congrArg some (Prod.ext rfl this)⟩
theorem Rnd.sig (h:Rnd N n C C' M) {i j:Nat} (hi:i < n) (hj:j < n) (hp:0≤ci C i) (e:ci C' i=ci C' j):BP N C i=BP N C j:=by
  by_cases hq:0≤ci C j
  . obtain ⟨a,a1,_,a3⟩:=h.val hi hp
    obtain ⟨b,b1,_,b3⟩:=h.val hj hq
    obtain rfl:a=b:=by omega
    rw [a3] at b3
    exact (Prod.ext_iff.1 (Option.some.inj b3)).1
  . obtain ⟨a,a1,_,_⟩:=h.val hi hp
    have:=h.neg j hj (by omega)
    omega
theorem Rnd.eqv (h:Rnd N n C C' M) {i j:Nat} (hi:i < n) (hj:j < n) (hp:0≤ci C i) (e:BP N C i=BP N C j):ci C' i=ci C' j:=by
  have hq:0≤ci C j:=by
    have:ci C i=ci C j:=by simp only [BP,List.cons.injEq] at e;exact e.1
    omega
  have h1:=h.pos i hi hp
  have h2:=h.pos j hj hq
  rw [e,h2] at h1
  exact (Option.some.inj h1).symm
theorem Part.alive (h:Part N F n C) {i:Nat} (hi:i < n) (hp:0≤ci C i):Bf N F i:=Classical.byContradiction fun hn=>by
  have:=h.neg i hi hn
  omega
theorem Hv (hnx:∀i c,i < n→c < 8→Dh N i c < n) (h:Part N F n C) (hr:Rnd N n C C' M):Part N F n C'∧Xa n C' M.length:=by
  have hal:∀i,i < n→¬Bf N F i→ci C i < 0:=fun i hi hn=>by have:=h.neg i hi hn;omega
  refine ⟨⟨hr.len,fun i hi hn=>hr.neg i hi (hal i hi hn),fun i hi ha=>?_,fun i j hi hj e=>?_,fun i j hi hj ha e=>?_⟩,fun i hi hp=>?_,fun j hj=>?_⟩
  . obtain ⟨j,a,_,_⟩:=hr.val hi (h.pos i hi ha)
    omega
  . by_cases ha:Bf N F i
    . refine hr.eqv hi hj (h.pos i hi ha) ?_
      unfold BP
      rw [h.same i j hi hj e]
      refine congrArg _ (List.map_congr_left fun c hc=>?_)
      have hc:=List.mem_range.1 hc
      exact h.same _ _ (hnx i c hi hc) (hnx j c hj hc) (by rw [Gt hc,Gt hc,e])
    . have hb:¬Bf N F j:=by
        rw [Di] at ha ⊢
        rw [←e]
        exact ha
      rw [hr.neg i hi (hal i hi ha),hr.neg j hj (hal j hj hb)]
  . have hs:=hr.sig hi hj (h.pos i hi ha) e
    have:ci C i=ci C j:=by simp only [BP,List.cons.injEq] at hs;exact hs.1
    exact h.fin i j hi hj ha this
  . by_cases hq:0≤ci C i
    . obtain ⟨j,a,b,_⟩:=hr.val hi hq
      omega
    . have:=hr.neg i hi (by omega)
      omega
  . obtain ⟨q,hq⟩:∃q,M[j]?=some q:=⟨_,List.getElem?_eq_getElem hj⟩
    obtain ⟨e,i,hi,hp,e2⟩:=hr.idx j q hq
    refine ⟨i,hi,?_⟩
    have h1:=QO hr.nodup (a:=q.1) (v:=q.2) hq
    have h2:=hr.pos i hi hp
    rw [←e2,h1] at h2
    exact (Option.some.inj h2).symm.trans e
theorem Xb {k m:Nat} (f:Nat→Nat) (hf:∀j,j < k→f j < m) (hi:∀i j,i < k→j < k→f i=f j→i=j):k≤m∧(k=m→∀y,y < m→∃x,x < k∧f x=y):=by
  have hnd:((List.range k).map f).Nodup:=by
    refine List.Pairwise.map _ ?_ (List.Pairwise.and_mem.1 (List.nodup_range (n:=k)))
    rintro a b ⟨ha,hb,hne⟩ e
    exact hne (hi a b (List.mem_range.1 ha) (List.mem_range.1 hb) e)
  constructor
  . have:=DE m ((List.range k).map f) hnd (fun x hx=>by
      obtain ⟨j,hj,rfl⟩:=List.mem_map.1 hx
      exact hf j (List.mem_range.1 hj))
    simpa using this
  . intro e y hy
    refine Classical.byContradiction fun hn=>?_
    have:=DE m (y::(List.range k).map f) (List.nodup_cons.2 ⟨fun hm=>by
      obtain ⟨j,hj,e⟩:=List.mem_map.1 hm
      exact hn ⟨j,List.mem_range.1 hj,e⟩,hnd⟩) (fun x hx=>by
      rcases List.mem_cons.1 hx with rfl|hx
      . exact hy
      . obtain ⟨j,hj,rfl⟩:=List.mem_map.1 hx
        exact hf j (List.mem_range.1 hj))
    simp at this
    omega
theorem L5 (h:Part N F n C) (hr:Rnd N n C C' M) {many:Nat} (hm:many=0∨Xa n C many):many≤M.length∧M.length≤n∧(M.length=many→∀i j,i < n→j < n→0≤ci C i→ci C i=ci C j→ci C' i=ci C' j):=by
  have hn2:M.length≤n:=by
    have hidx:∀j,j < M.length→∃i,i < n∧0≤ci C i∧ci C' i=j:=fun j hj=>by
      obtain ⟨q,hq⟩:∃q,M[j]?=some q:=⟨_,List.getElem?_eq_getElem hj⟩
      obtain ⟨e,i,hi,hp,e2⟩:=hr.idx j q hq
      refine ⟨i,hi,hp,?_⟩
      have h1:=QO hr.nodup (a:=q.1) (v:=q.2) hq
      have h2:=hr.pos i hi hp
      rw [←e2,h1] at h2
      exact (Option.some.inj h2).symm.trans e
    let g:Nat→Nat:=fun j=>if hj:j < M.length then (hidx j hj).choose else 0
    have hg:∀j (hj:j < M.length),g j < n∧ci C' (g j)=j:=fun j hj=>by
      have:=(hidx j hj).choose_spec
      simp only [g,dif_pos hj]
      exact ⟨this.1,this.2.2⟩
    exact (Xb g (fun j hj=>(hg j hj).1) (fun i j hi hj e=>by
      have h1:=(hg i hi).2
      have h2:=(hg j hj).2
      rw [e,h2] at h1
      omega)).1
  rcases hm with rfl|⟨hm1,hm2⟩
  . refine ⟨by omega,hn2,fun e i j hi hj hp _=>?_⟩
    obtain ⟨k,_,hk,_⟩:=hr.val hi hp
    omega
  . let rep:Nat→Nat:=fun j=>if hj:j < many then (hm2 j hj).choose else 0
    have hrep:∀j (hj:j < many),rep j < n∧ci C (rep j)=j:=fun j hj=>by
      have:=(hm2 j hj).choose_spec
      simp only [rep,dif_pos hj]
      exact this
    let f:Nat→Nat:=fun j=>(ci C' (rep j)).toNat
    have hf:∀j (hj:j < many),f j < M.length∧ci C' (rep j)=f j:=fun j hj=>by
      obtain ⟨h1,h2⟩:=hrep j hj
      obtain ⟨k,a,b,_⟩:=hr.val h1 (by omega)
      simp only [f,a]
      exact ⟨by omega,by omega⟩
    have hfin:∀i j,i < many→j < many→f i=f j→i=j:=fun i j hi hj e=>by
      obtain ⟨h1,h2⟩:=hrep i hi
      obtain ⟨h3,h4⟩:=hrep j hj
      have hs:=hr.sig h1 h3 (by omega) (by rw [(hf i hi).2,(hf j hj).2,e])
      have:ci C (rep i)=ci C (rep j):=by simp only [BP,List.cons.injEq] at hs;exact hs.1
      omega
    obtain ⟨l1,l2⟩:=Xb f (fun j hj=>(hf j hj).1) hfin
    refine ⟨l1,hn2,fun e i j hi hj hp hij=>?_⟩
    have key:∀i,i < n→0≤ci C i→ci C' i=f (ci C i).toNat:=fun i hi hp=>by
      obtain ⟨k,a,b,_⟩:=hr.val hi hp
      obtain ⟨x,hx,ex⟩:=l2 e.symm k b
      obtain ⟨h1,h2⟩:=hrep x hx
      have hs:=hr.sig hi h1 hp (by rw [(hf x hx).2,ex,a])
      have:ci C i=ci C (rep x):=by simp only [BP,List.cons.injEq] at hs;exact hs.1
      have e3:(ci C i).toNat=x:=by omega
      rw [e3,ex,a]
    rw [key i hi hp,key j hj (by omega),hij]
structure Cls (N:List (List Int)) (F:List Bool) (n:Nat) (C:List Int):Prop where
  part:Part N F n C
  lng:∀i j,i < n→j < n→ci C i=ci C j→CH N F i=CH N F j
theorem QP (hnx:∀i c,i < n→c < 8→Dh N i c < n) (h:Part N F n C) (hr:Rnd N n C C' M) {many:Nat} (hm:many=0∨Xa n C many) (e:M.length=many):Cls N F n C':=by
  obtain ⟨hp',hn'⟩:=Hv hnx h hr
  obtain ⟨_,_,hst⟩:=L5 h hr hm
  have hst:=hst e
  refine ⟨hp',fun i j hi hj hij=>?_⟩
  have hdead:∀i j,i < n→j < n→ci C' i=ci C' j→(Bf N F i↔Bf N F j):=fun i j hi hj e=>by
    constructor
    . intro ha
      have:=hp'.pos i hi ha
      exact hp'.alive hj (by omega)
    . intro ha
      have:=hp'.pos j hj ha
      exact hp'.alive hi (by omega)
  have key:∀(w:List Nat) (i j:Nat),i < n→j < n→ci C' i=ci C' j→EC w→DW F (w.foldl (Dh N) i)=DW F (w.foldl (Dh N) j):=by
    intro w
    induction w with
    | nil=>
      intro i j hi hj hij _
      by_cases ha:Bf N F i
      . exact hp'.fin i j hi hj ha hij
      . have hb:=fun x=>ha ((hdead i j hi hj hij).2 x)
        have z:∀k,¬Bf N F k→DW F k=false:=fun k hk=>by
          cases hf:DW F k with
          | false=>rfl
          | true=>exact absurd ⟨[],by simp [EC],hf⟩ hk
        show DW F i=DW F j
        rw [z i ha,z j hb]
    | cons c w ih=>
      intro i j hi hj hij hw
      have hc:=hw c (by simp)
      have hw':EC w:=fun d hd=>hw d (by simp [hd])
      by_cases ha:Bf N F i
      . have hs:=hr.sig hi hj (h.pos i hi ha) hij
        have hcc:ci C (Dh N i c)=ci C (Dh N j c):=by
          simp only [BP,List.cons.injEq] at hs
          have h1:=congrArg (fun l:List Int=>l[c]?) hs.2
          simp only [List.getElem?_map,List.getElem?_range hc,Option.map_some,Option.some.injEq] at h1
          exact h1
        refine ih _ _ (hnx i c hi hc) (hnx j c hj hc) ?_ hw'
        by_cases hq:0≤ci C (Dh N i c)
        . exact hst _ _ (hnx i c hi hc) (hnx j c hj hc) hq hcc
        . rw [hr.neg _ (hnx i c hi hc) (by omega),hr.neg _ (hnx j c hj hc) (by omega)]
      . have hb:=fun x=>ha ((hdead i j hi hj hij).2 x)
        have z:∀k,¬Bf N F k→DW F ((c::w).foldl (Dh N) k)=false:=fun k hk=>by
          cases hf:DW F ((c::w).foldl (Dh N) k) with
          | false=>rfl
          | true=>exact absurd ⟨c::w,hw,hf⟩ hk
        rw [z i ha,z j hb]
  exact Ts fun w hw=>key w i j hi hj hij hw
end
end Go.Proofs.YtkaiffheakalmaaGreatDoor
namespace Go.Proofs.YtkaiffheakalmaaGreatDoor
open Go.RowKit
section
variable {C:Ctx} {K:ES→Prop}
theorem HE {n:Nat} {u:List (Nat×V)} {h:List (Option Ob)} (hk:UpE C K ⟨n,u,h++[none]⟩):UpE C K ⟨n,u,h⟩:=by
  have key:∀(id:Nat) (o:Ob),(h++[none])[id]?=some (some o)↔h[id]?=some (some o):=fun id o=>by
    rw [List.getElem?_append]
    split
    . exact Iff.rfl
    . rename_i hi
      constructor
      . intro e
        match hj:id - h.length with
        | 0=>rw [hj] at e;cases e
        | j+1=>rw [hj] at e;simp at e
      . intro e
        exact absurd (List.getElem?_eq_some_iff.1 e).1 hi
  refine ⟨BQ (fun a w hr=>?_) hk.out⟩
  obtain ⟨I,bl,hp⟩:=hr.parts
  refine RP.rel (I:=I) (bl:=bl) ⟨hp.defers,hp.env,⟨fun id o ho=>hp.heap.obj id o ((key id o).1 ho),fun id i hi=>?_,hp.heap.apart,hp.heap.own,hp.heap.imm,hp.heap.kept⟩⟩
  obtain ⟨o,ho⟩:=hp.heap.live id i hi
  exact ⟨o,(key id o).2 ho⟩
end
end Go.Proofs.YtkaiffheakalmaaGreatDoor
namespace Go.Proofs.YtkaiffheakalmaaGreatDoor
open Go.RowKit
theorem QQ {r:List Bool} {k:Nat} {b:Bool} (h:r[k]?=some b):(r.map V.bool)[0+Int.toNat (k:Int)]?=some (.bool b):=by
  rw [Nat.zero_add,Int.toNat_natCast,List.getElem?_map,h];rfl
end Go.Proofs.YtkaiffheakalmaaGreatDoor
namespace Go.Proofs.YtkaiffheakalmaaGreatDoor
open Go.RowKit
def Cb (N:List (List Int)) (F:List Bool):V:=.agg [.lst (N.map A9),.lst (F.map V.bool)]
theorem Im {N:List (List Int)} {i:Nat} {r:List Int} (h:N[i]?=some r):(N.map A9)[Int.toNat (i:Int)]?=some (A9 r):=by
  rw [Int.toNat_natCast,List.getElem?_map,h];rfl
theorem QR {r:List Bool} {x:Int} {b:Bool} (h:r[x.toNat]?=some b):(r.map V.bool)[0+Int.toNat x]?=some (.bool b):=by
  rw [Nat.zero_add,List.getElem?_map,h];rfl
set_option maxHeartbeats 16000000 in
theorem U8 {N:List (List Int)} {F:List Bool} {n:Nat} (h:WF n N F) (hn2:n≤1048576):
    Fn1 Tryz.prog 84 [Cb N F] (fun r=>∃D:List Bool,r= .lst (D.map V.bool)∧D.length=n∧∀i,i < n→(bt D i=true↔Bf N F i)):=by
  have hNm:(N.map A9).length=N.length:=by simp
  have hFm:(F.map V.bool).length=F.length:=by simp
  have hNl:=h.lenN
  have hFl:=h.lenF
  have hnx:∀i c,i < n→c < 8→Dh N i c < n:=fun i c hi hc=>h.nx hi hc
  have hcl:=IW F (by omega)
  have hs0:Lsd N F n F:=⟨h.lenF,fun i hi e=>⟨[],by simp [EC],by simpa [bt,DW] using e⟩,fun i hi e=>by simpa [bt,DW] using e⟩
  unfold Cb
  refine A4 (T:=Tryz.tt) Tryz.func84 rfl AR AB ?_ ?_ fun C hC hE=>?_
  . kernel_rfl
  . exact Nat.le_of_ble_eq_true (by kernel_rfl)
  conv=>whnf
  repeat' (refine Ak (FT 1 (AP ?_));(conv=>whnf);refine Hq hcl hC E3 1 rfl ?_ rfl (A3 _) ?_;exact A6 ⟨trivial,trivial⟩;conv=>whnf)
  refine Ae (fun ((D,more):List Bool×Bool)=>⟨46,[(1,.rp [.lst (N.map A9),.lst (F.map V.bool)]),(3,.sl 1 0 n),(4,.bool more)],[none,some (.row 1 (D.map V.bool))]⟩)
    (fun (D,more)=>Lsd N F n D∧(more=false→∀i,i < n→(bt D i=true↔Bf N F i))) (fun (D,more)=>2*YW D+more.toNat) (F,true) hE ?_ ?_ ⟨hs0,fun h=>by cases h⟩ ?_
  . kernel_rfl
  . refine AO 0 (z:=2) (els:=[Cb N F]) rfl ⟨⟨trivial,trivial,trivial⟩,trivial⟩ (AU [1,3,4] ?_)
    conv=>whnf
    rw [AZ _ _ (A3 F),hFl]
    rfl
  rintro ⟨D0,more⟩ ⟨hS0,hmore⟩
  have hD0m:(D0.map V.bool).length=D0.length:=by simp
  have hD0l:=hS0.len
  cases more with
  | false=>
    conv=>whnf
    repeat' (first|(refine Ca (BM 1 2 [] rfl ?_ rfl ?_ rfl (AP ?_)))|(refine AH hE ?_;conv=>whnf))
    . exact A3 D0
    . omega
    . exact ⟨rfl,D0,rfl,hS0.len,hmore rfl⟩
  | true=>
    conv=>whnf
    repeat' (intro hlen;conv=>whnf)
    refine Ae (fun ((i,D,more):Nat×List Bool×Bool)=>⟨46,[(1,.rp [.lst (N.map A9),.lst (F.map V.bool)]),(3,.sl 1 0 n),(4,.bool more),(14,.lst (N.map A9)),(15,.int .i64 n),(16,.int .i64 i)],[none,some (.row 1 (D.map V.bool))]⟩)
      (fun (i,D,more)=>i≤n∧LInv N F n D0 D more i 0) (fun (i,_,_)=>n - i) (0,D0,false) hE ?_ ?_ ⟨Nat.zero_le _,LInv.start hS0⟩ ?_
    . kernel_rfl
    . refine AU [1,3,4,14,15,16] ?_
      conv=>whnf
      rw [hNm,hNl]
      rfl
    rintro ⟨i,D,more⟩ ⟨hi,hI⟩
    by_cases hlt:i < n
    . obtain ⟨row,hrow⟩:∃x,N[i]?=some x:=⟨_,List.getElem?_eq_getElem (by omega)⟩
      obtain ⟨h8,hxs⟩:=h.rows row (List.mem_of_getElem? hrow)
      obtain ⟨a0,a1,a2,a3,a4,a5,a6,a7,rfl⟩:=J7 h8
      have g1:=Im hrow
      conv=>whnf
      repeat' (first|(refine AN (by first|assumption|omega) ?_;conv=>whnf)|(refine Af (by first|assumption|omega) ?_;conv=>whnf)|(refine AQ (by assumption) ?_;conv=>whnf))
      refine Ae (fun ((c,D,more):Nat×List Bool×Bool)=>⟨46,[(1,.rp [.lst (N.map A9),.lst (F.map V.bool)]),(3,.sl 1 0 n),(4,.bool more),(5,.int .i64 i),(14,.lst (N.map A9)),(15,.int .i64 n),(16,.int .i64 i),(21,A9 [a0,a1,a2,a3,a4,a5,a6,a7]),(22,.int .i64 c)],[none,some (.row 1 (D.map V.bool))]⟩)
        (fun (c,D,more)=>c≤8∧LInv N F n D0 D more i c) (fun (c,_,_)=>8 - c) (0,D,more) hE ?_ ?_ ⟨Nat.zero_le _,hI⟩ ?_
      . kernel_rfl
      . refine DP [1,3,4,5,14,15,16,21,22] [0] ?_
        conv=>whnf
        rw [AA _ (A3 D)]
        rfl
      clear hI
      rintro ⟨c,D,more⟩ ⟨hc,hI⟩
      have hDm:(D.map V.bool).length=D.length:=by simp
      have hDl:=hI.lsd.len
      by_cases hc8:c < 8
      . obtain ⟨row',x,hrow',_,hxc,hx0,hxn,ex⟩:=h.get hlt hc8
        rw [hrow] at hrow'
        cases hrow'
        have hxt:x.toNat < n:=by omega
        have g2:=QR (Hu hDl hxt)
        have g3:=QQ (Hu hDl hlt)
        have hpass:=fun hf=>hI.pass (by rw [ex];exact hf)
        have hput:=fun hf hd=>hI.put hnx hlt hc8 hf (by rw [ex];exact hd) (c+1)
        obtain ⟨bx,ebx⟩:∃b,bt D x.toNat=b:=⟨_,rfl⟩
        obtain ⟨bi,ebi⟩:∃b,bt D i=b:=⟨_,rfl⟩
        rw [ebx] at g2 hpass hput
        rw [ebi] at g3 hpass hput
        clear hI ex
        obtain rfl|rfl|rfl|rfl|rfl|rfl|rfl|rfl:c=0∨c=1∨c=2∨c=3∨c=4∨c=5∨c=6∨c=7:=by omega
        all_goals simp only [List.getElem?_cons_zero,List.getElem?_cons_succ,Option.some.injEq] at hxc
        all_goals subst hxc
        all_goals cases bx
        all_goals cases bi
        all_goals
          conv=>whnf
          repeat' (first|(refine AN (by first|assumption|omega) ?_;conv=>whnf)|(refine Af (by first|assumption|omega) ?_;conv=>whnf)|(refine AS (by omega) ?_;conv=>whnf)|(refine AQ (by assumption) ?_;conv=>whnf))
          first
          | (refine AJ [1,3,4,5,14,15,16,21,22] (_+1,D,more) ⟨?_,hpass (by first|exact .inl rfl|exact .inr rfl)⟩ ?_ ?_
             . omega
             . show 8 - _ < 8 - _;omega
             conv=>whnf
             rfl)
          | (refine AJ [1,3,4,5,14,15,16,21,22] (_+1,D.set i true,true) ⟨?_,hput rfl rfl⟩ ?_ ?_
             . omega
             . show 8 - _ < 8 - _;omega
             conv=>whnf
             rw [Nat.zero_add,Int.toNat_natCast]
             show _=(⟨46,_,[none,some (.row 1 ((D.set i true).map V.bool))]⟩:ES)
             rw [List.map_set]
             rfl)
      . obtain rfl:c=8:=by omega
        conv=>whnf
        repeat' (first|(refine AM (by first|assumption|omega) ?_;conv=>whnf)|(refine AS (by omega) ?_;conv=>whnf))
        refine AJ [1,3,4,14,15,16] (i+1,D,more) ⟨hlt,hI.row (by omega)⟩ (by show n - (i+1) < n - i;omega) ?_
        conv=>whnf
        rfl
    . conv=>whnf
      repeat' (refine AM (by first|assumption|omega) ?_;conv=>whnf)
      refine AJ [1,3,4] (D,more) ⟨hI.lsd,fun e=>by subst e;exact hI.done (by omega) hnx⟩ ?_ ?_
      . show 2*YW D+more.toNat < 2*YW D0+1
        rcases hI.so with ⟨rfl,rfl,_⟩|⟨rfl,h⟩
        . simp
        . simp;omega
      conv=>whnf
end Go.Proofs.YtkaiffheakalmaaGreatDoor
namespace Go.Proofs.YtkaiffheakalmaaGreatDoor
open Go.RowKit
def In (P:Ps) (La:List Bool) (n:Int) (a:List Int×Bool×Bool) (k:Int):List Int×Bool×Bool:=
  if CB P.T k.toNat=n then (a.1++AF P.F k.toNat,true,a.2.2 || La.getD k.toNat false) else a
def Zs (P:Ps) (La:List Bool) (q:List Int) (n:Int):List Int×Bool×Bool:=q.foldl (In P La n) ([],false,false)
def Xc (P:Ps) (La:List Bool) (q:List Int) (a:Kn×List Int) (n:Nat):Kn×List Int:=
  if (Zs P La q n).2.1 then ((Ls (Zs P La q n).1 (Zs P La q n).2.2 a.1).2,a.2++[(Ls (Zs P La q n).1 (Zs P La q n).2.2 a.1).1]) else (a.1,a.2++[-1])
def Gu (P:Ps) (La:List Bool) (q:List Int) (K:Kn) (c:Nat):Kn×List Int:=(List.range c).foldl (Xc P La q) (K,[])
theorem JU (P:Ps) (La:List Bool) (q:List Int) (K:Kn) (c:Nat):Gu P La q K (c+1)=Xc P La q (Gu P La q K c) c:=by
  unfold Gu
  rw [List.range_succ,List.foldl_append]
  rfl
def Xd (P:Ps) (La:List Bool) (a:Kn×List (List Int)) (i:Nat):Kn×List (List Int):=
  ((Gu P La (a.1.getD i ([],false)).1 a.1 8).1,a.2++[(Gu P La (a.1.getD i ([],false)).1 a.1 8).2])
def GK (P:Ps) (La:List Bool) (p:Pt) (i:Nat):Kn×List (List Int):=(List.range i).foldl (Xd P La) ((Ls p.first p.none []).2,[])
theorem JV (P:Ps) (La:List Bool) (p:Pt) (i:Nat):GK P La p (i+1)=Xd P La (GK P La p i) i:=by
  unfold GK
  rw [List.range_succ,List.foldl_append]
  rfl
def Ag (n:Nat) (l:List Int):List Bool:=l.foldl (fun a k=>a.set k.toNat true) (List.replicate n false)
theorem Rt (n:Nat) (l:List Int) (k:Int):Ag n (l++[k])=(Ag n l).set k.toNat true:=by
  unfold Ag
  rw [List.foldl_append]
  rfl
theorem U9 (n:Nat) (l:List Int):(Ag n l).length=n:=by
  have:∀(l:List Int) (a:List Bool),(l.foldl (fun a k=>a.set k.toNat true) a).length=a.length:=by
    intro l
    induction l with
    | nil=>intro a;rfl
    | cons k l ih=>intro a;rw [List.foldl_cons,ih];simp
  unfold Ag
  rw [this]
  simp
theorem QS (P:Ps) (La:List Bool) (q:List Int) (K:Kn):∀c,(Gu P La q K c).2.length=c∧K.length≤(Gu P La q K c).1.length∧(Gu P La q K c).1.length≤K.length+c∧∀(j:Nat) (x:List Int×Bool),K[j]?=some x→(Gu P La q K c).1[j]?=some x:=by
  intro c
  induction c with
  | zero=>exact ⟨rfl,Nat.le_refl _,Nat.le_refl _,fun j x h=>h⟩
  | succ c ih=>
    obtain ⟨h1,h2,h3,h4⟩:=ih
    rw [JU]
    unfold Xc
    split
    . refine ⟨by simp [h1],?_⟩
      unfold Ls
      split
      . exact ⟨h2,Nat.le_trans h3 (by omega),h4⟩
      . refine ⟨?_,?_,fun j x h=>?_⟩
        . simp only [List.length_append];omega
        . simp only [List.length_append,List.length_cons,List.length_nil];omega
        . exact (List.getElem?_append_left (List.getElem?_eq_some_iff.1 (h4 j x h)).1).trans (h4 j x h)
    . exact ⟨by simp [h1],h2,Nat.le_trans h3 (by omega),h4⟩
theorem QT (P:Ps) (La:List Bool) (p:Pt):∀i,(GK P La p i).2.length=i:=by
  intro i
  induction i with
  | zero=>rfl
  | succ i ih=>rw [JV];unfold Xd;simp [ih]
structure OkSets (P:Ps) (p:Pt) (R:Nat):Prop where
  len:P.F.length=P.T.length
  four:P.T.length≤4
  last:∀k∈p.last,0≤k∧k < (P.T.length:Int)
  ll:p.last.length≤12
  fl:p.first.length≤12
  fb:∀k∈p.first,0≤k∧k < 4
  rl:R≤100
  rows:∀r∈P.F,r.length≤12
  go:∀i,i < R→i < (GK P (Ag P.T.length p.last) p i).1.length
  many:∀i,i≤R→(GK P (Ag P.T.length p.last) p i).1.length≤900
  fin:(GK P (Ag P.T.length p.last) p R).1.length=R
  q:∀i,i < R→∀k∈((GK P (Ag P.T.length p.last) p i).1.getD i ([],false)).1,0≤k∧k < (P.T.length:Int)
  ql:∀i,i < R→((GK P (Ag P.T.length p.last) p i).1.getD i ([],false)).1.length≤12
  to:∀i,i < R→∀n,n < 8→∀k∈(Zs P (Ag P.T.length p.last) ((GK P (Ag P.T.length p.last) p i).1.getD i ([],false)).1 (n:Nat)).1,0≤k∧k < (P.T.length:Int)
  tol:∀i,i < R→∀n,n < 8→(Zs P (Ag P.T.length p.last) ((GK P (Ag P.T.length p.last) p i).1.getD i ([],false)).1 (n:Nat)).1.length≤12
def VA:Nat→Nat|0=>5|1=>3|2=>2|3=>4|4=>6|5=>7|6=>8|j=>j
def dl (K:Kn) (N:List (List Int)):List Ob:=[.row 1 [.it 4],.row 1 [.sl 6 0 K.length],.row 2 [.agg [.sl 7 0 N.length,.sl 8 0 K.length]],H3 Cp (J8 K),.row 1 (K.map fun q=>AY q.1),.row 8 (N.map A9),.row 1 (K.map fun q=>V.bool q.2)]
theorem Xe (K:Kn) (N:List (List Int)):∀(j:Nat) (o o':Ob),(dh K N)[j]?=some o→(dl K N)[j]?=some o'→Mf 7 VA o o':=by
  intro j o o' h h'
  match j,h,h' with
  | 0,h,h'=>cases h;cases h';exact ⟨_,rfl,_,_,rfl,⟨by decide,rfl⟩,rfl⟩
  | 1,h,h'=>cases h;cases h';exact ⟨_,rfl,_,_,rfl,⟨by decide,rfl⟩,rfl⟩
  | 2,h,h'=>cases h;cases h';exact ⟨_,rfl,_,_,rfl,⟨_,rfl,_,_,rfl,⟨by decide,rfl⟩,_,_,rfl,⟨by decide,rfl⟩,rfl⟩,rfl⟩
  | 3,h,h'=>cases h;cases h';rfl
  | 4,h,h'=>cases h;cases h';exact ⟨_,rfl,A6 (FU K)⟩
  | 5,h,h'=>cases h;cases h';exact ⟨_,rfl,A6 (CG N)⟩
  | 6,h,h'=>cases h;cases h';exact ⟨_,rfl,A6 (DS K)⟩
  | j+7,h,_=>simp [dh] at h
theorem F3 {C:Ctx} {fop:Operand} {args:List Operand} {KK:V→ES→Prop} {σ:ES} (l:List Int) (f:Bool) (K:Kn) (N:List (List Int)) (hl:l.length≤12) (hK:K.length≤1000) (hb:∀x∈l,-9223372036854775808≤x∧x≤9223372036854775807) (hg:GC C GT) (hC:C.P=Tryz.prog)
    (he:B3 σ fop args=some (53,[.lst (l.map (V.int .i64)),.bool f,.ptr 5 0 0,.ptr 3 0 0,.ptr 2 0 0])) (hobj:∀(j:Nat) (o:Ob),(dl K N)[j]?=some o→σ.heap[VA j]?=some (some o))
    (hk:fH (BG VA (dl (Ls l f K).2 N) 0 (BA [4,6,7,8] σ.heap)) fun h=>KK (.int .i64 (Ls l f K).1) ⟨σ.n,Cq [4,6,7,8] σ.u,h⟩):CallN C fop args 53 [.lst (l.map (V.int .i64)),.bool f,.ptr 5 0 0,.ptr 3 0 0,.ptr 2 0 0] KK σ:=by
  rw [BB] at hk
  have lt7:∀j:Nat,(h:Nat.blt j 7=true:=by decide)→j < (dh K N).length:=fun j h=>Dq.1 h
  have hcs:∀j,j < 7→j=0∨j=1∨j=2∨j=3∨j=4∨j=5∨j=6:=fun j hj=>by omega
  refine Zf (Zh l f K N hl hK hb) hg hC Sd he VA (fun i j hi hj e=>?_) ?_ (fun j o ho=>?_) [4,6,7,8] (fun j hj hm=>?_) (fun j hj=>?_) ?_
  . rcases hcs i hi with rfl|rfl|rfl|rfl|rfl|rfl|rfl<;>rcases hcs j hj with rfl|rfl|rfl|rfl|rfl|rfl|rfl<;>first|rfl|(simp [VA] at e)
  . exact ⟨_,_,rfl,rfl,_,_,rfl,rfl,_,_,rfl,⟨lt7 0,rfl⟩,_,_,rfl,⟨lt7 1,rfl⟩,_,_,rfl,⟨lt7 2,rfl⟩,rfl⟩
  . have hj:j < 7:=(List.getElem?_eq_some_iff.1 ho).1
    obtain ⟨o',ho'⟩:∃o',(dl K N)[j]?=some o':=⟨_,List.getElem?_eq_getElem hj⟩
    exact ⟨o',hobj j o' ho',Xe K N j o o' ho ho'⟩
  . rcases hcs j hj with rfl|rfl|rfl|rfl|rfl|rfl|rfl<;>first|decide|exact absurd (by decide) hm
  . simp only [List.mem_cons,List.not_mem_nil,or_false] at hj
    rcases hj with rfl|rfl|rfl|rfl
    . exact ⟨3,lt7 3,rfl⟩
    . exact ⟨4,lt7 4,rfl⟩
    . exact ⟨5,lt7 5,rfl⟩
    . exact ⟨6,lt7 6,rfl⟩
  . rintro r0 objs' ⟨rfl,rfl⟩ _
    exact ⟨_,dl (Ls l f K).2 N,rfl,rfl,fun j o o' h1 h2=>Xe _ N j o o' h1 h2,hk⟩
theorem Oj {K:Kn} {N:List (List Int)} {h:List (Option Ob)} (h5:h[5]?=some (some (.row 1 [.it 4]))) (h3:h[3]?=some (some (.row 1 [.sl 6 0 K.length]))) (h2:h[2]?=some (some (.row 2 [.agg [.sl 7 0 N.length,.sl 8 0 K.length]]))) (h4:h[4]?=some (some (H3 Cp (J8 K))))
    (h6:h[6]?=some (some (.row 1 (K.map fun q=>AY q.1)))) (h7:h[7]?=some (some (.row 8 (N.map A9)))) (h8:h[8]?=some (some (.row 1 (K.map fun q=>V.bool q.2)))):∀(j:Nat) (o:Ob),(dl K N)[j]?=some o→h[VA j]?=some (some o):=by
  intro j o ho
  match j,ho with
  | 0,ho=>cases ho;exact h5
  | 1,ho=>cases ho;exact h3
  | 2,ho=>cases ho;exact h2
  | 3,ho=>cases ho;exact h4
  | 4,ho=>cases ho;exact h6
  | 5,ho=>cases ho;exact h7
  | 6,ho=>cases ho;exact h8
  | j+7,ho=>simp [dl] at ho
theorem Xf (to row:List Int):List.take to.length (List.drop 0 (to.map (V.int .i64)))++row.map (V.int .i64)=(to++row).map (V.int .i64):=by
  rw [List.drop_zero,List.take_of_length_le (by simp),List.map_append]
theorem Xg (to row:List Int):to.length+(row.map (V.int .i64)).length=(to++row).length:=by
  rw [List.length_append,List.length_map]
theorem Nq (id:Nat) (A:List Int):AK id [A9 A]=[A9 A]:=AA id ⟨OR A,trivial⟩
end Go.Proofs.YtkaiffheakalmaaGreatDoor
