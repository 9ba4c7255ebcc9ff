/- Joined. No conditions. -/
import Derived.Test.YtkaiffheakalmaaGreatDoorJ9ay
import Derived.Test.YtkaiffheakalmaaGreatDoorJ9be
set_option linter.unusedSimpArgs false
set_option linter.unusedVariables false
set_option maxRecDepth 100000
namespace Go.Proofs.YtkaiffheakalmaaGreatDoor
section
structure WF (n:Nat) (N:List (List Int)) (F:List Bool):Prop where
 lenN:N.length=n
 lenF:F.length=n
 rows:∀r∈N,r.length=8∧∀x∈r,0≤x∧x < n
theorem WF.get {n:Nat} {N:List (List Int)} {F:List Bool} (h:WF n N F) {i c:Nat} (hi:i < n) (hc:c < 8):∃(row:List Int) (x:Int),N[i]?=some row∧row.length=8∧row[c]?=some x∧0≤x∧x < n∧Em N i c=x.toNat:=by
 obtain ⟨row,hrow⟩:∃b,N[i]?=some b:=⟨_,List.getElem?_eq_getElem (by rw [h.lenN];exact hi)⟩
 obtain ⟨h8,hx⟩:=h.rows row (List.mem_of_getElem? hrow)
 obtain ⟨x,hxc⟩:∃b,row[c]?=some b:=⟨_,List.getElem?_eq_getElem (by omega)⟩
 obtain ⟨h1,h2⟩:=hx x (List.mem_of_getElem? hxc)
 exact ⟨row,x,hrow,h8,hxc,h1,h2,by simp [Em,hrow,hxc]⟩
theorem WF.nx {n:Nat} {N:List (List Int)} {F:List Bool} (h:WF n N F) {i c:Nat} (hi:i < n) (hc:c < 8):Em N i c < n:=by
 obtain ⟨_,x,_,_,_,h1,h2,e⟩:=h.get hi hc
 rw [e];omega
theorem WF.fin {n:Nat} {N:List (List Int)} {F:List Bool} (h:WF n N F) {i:Nat} (hi:i < n):F[i]?=some (Dv F i):=by
 obtain ⟨b,hb⟩:∃b,F[i]?=some b:=⟨_,List.getElem?_eq_getElem (by rw [h.lenF];exact hi)⟩
 simp [Dv,hb]
def Bn (N:List (List Int)) (F:List Bool) (i:Nat):Prop:=∃w,Eq w∧Dv F (w.foldl (Em N) i)=true
theorem D6 {N:List (List Int)} {F:List Bool} {i:Nat}:Bn N F i↔¬JS (CY N F i):=by
 constructor
 ·rintro ⟨w,hw,hf⟩ hd
  have:=hd w
  unfold CY at this
  rw [hf,Bool.and_true] at this
  have e:w.all (fun c=>decide (c < 8))=true:=List.all_eq_true.2 fun c hc=>decide_eq_true (hw c hc)
  rw [e] at this
  cases this
 ·intro hd
  refine Classical.byContradiction fun hn=>hd fun w=>?_
  unfold CY
  by_cases hw:w.all (fun c=>decide (c < 8))=true
  ·have hok:Eq w:=fun c hc=>of_decide_eq_true (List.all_eq_true.1 hw c hc)
   have:Dv F (w.foldl (Em N) i)=false:=by
    cases h:Dv F (w.foldl (Em N) i) with
    | false=>rfl
    | true=>exact absurd ⟨w,hok,h⟩ hn
   rw [this,Bool.and_false]
  ·have:w.all (fun c=>decide (c < 8))=false:=by simpa using hw
   rw [this,Bool.false_and]
def bt (D:List Bool) (i:Nat):Bool:=(D[i]?).getD false
def bH (D:List Bool):Nat:=D.countP fun b=>!b
structure Lsd (N:List (List Int)) (F:List Bool) (n:Nat) (D:List Bool):Prop where
 len:D.length=n
 sound:∀i,i < n→bt D i=true→Bn N F i
 base:∀i,i < n→Dv F i=true→bt D i=true
theorem KG {D:List Bool} {n i:Nat} (h:D.length=n) (hi:i < n):D[i]?=some (bt D i):=by
 obtain ⟨b,hb⟩:∃b,D[i]?=some b:=⟨_,List.getElem?_eq_getElem (by omega)⟩
 simp [bt,hb]
theorem Y8 {D:List Bool} {n i:Nat} (h:D.length=n) (hi:i < n) (j:Nat):bt (D.set i true) j=if j=i then true else bt D j:=by
 unfold bt
 rw [List.getElem?_set]
 by_cases e:i=j
 ·subst e;simp [h,hi]
 ·rw [if_neg e,if_neg (Ne.symm e)]
structure LInv (N:List (List Int)) (F:List Bool) (n:Nat) (D0 D:List Bool) (more:Bool) (i c:Nat):Prop where
 lsd:Lsd N F n D
 so:(more=false∧D=D0∧∀i' c',i' < n→c' < 8→(i' < i∨(i'=i∧c' < c))→bt D (Em N i' c')=true→bt D i'=true)∨(more=true∧bH D < bH D0)
section
variable {N:List (List Int)} {F:List Bool} {n:Nat} {D0 D:List Bool} {more:Bool} {i c:Nat}
theorem LInv.start (h:Lsd N F n D):LInv N F n D D false 0 0:=⟨h,.inl ⟨rfl,rfl,fun i' c' _ _ h=>by omega⟩⟩
theorem LInv.pass (h:LInv N F n D0 D more i c) (hf:bt D (Em N i c)=false∨bt D i=true):LInv N F n D0 D more i (c+1):=⟨h.lsd,h.so.imp (fun ⟨h1,h2,h3⟩=>⟨h1,h2,fun i' c' a d e f=>by
 by_cases hh:i'=i∧c'=c
 ·obtain ⟨rfl,rfl⟩:=hh
  rcases hf with hf|hf
  ·rw [hf] at f;cases f
  ·exact hf
 ·exact h3 i' c' a d (by omega) f⟩) id⟩
theorem LInv.row (h:LInv N F n D0 D more i c) (hc:8≤c):LInv N F n D0 D more (i+1) 0:=⟨h.lsd,h.so.imp (fun ⟨h1,h2,h3⟩=>⟨h1,h2,fun i' c' a d e f=>h3 i' c' a d (by omega) f⟩) id⟩
theorem LInv.put (h:LInv N F n D0 D more i c) (hnx:∀i c,i < n→c < 8→Em N i c < n) (hi:i < n) (hc:c < 8) (hf:bt D i=false) (hd:bt D (Em N i c)=true) (c':Nat):LInv N F n D0 (D.set i true) true i c':=by
 have hl:=h.lsd.len
 refine ⟨⟨by simp [hl],fun j hj e=>?_,fun j hj e=>?_⟩,.inr ⟨rfl,?_⟩⟩
 ·rw [Y8 hl hi] at e
  split at e
  ·rename_i e2
   subst e2
   obtain ⟨w,hw,hn⟩:=h.lsd.sound _ (hnx j c hj hc) hd
   exact ⟨c::w,fun d hd=>by rcases List.mem_cons.1 hd with rfl|hd;exact hc;exact hw d hd,hn⟩
  ·exact h.lsd.sound j hj e
 ·rw [Y8 hl hi]
  split
  ·rfl
  ·exact h.lsd.base j hj e
 ·have h1:=W7 D i (by rw [KG hl hi,hf])
  rcases h.so with ⟨_,rfl,_⟩|⟨_,h2⟩
  ·unfold bH;omega
  ·unfold bH at h2 ⊢;omega
theorem MZ (hnx:∀i c,i < n→c < 8→Em N i c < n) (h:Lsd N F n D) (hc:∀i c,i < n→c < 8→bt D (Em N i c)=true→bt D i=true):∀i,i < n→(bt D i=true↔Bn N F i):=by
 have key:∀(w:List Nat) (i:Nat),i < n→Eq w→Dv F (w.foldl (Em N) i)=true→bt D i=true:=by
  intro w
  induction w with
  | nil=>exact fun i hi _ hf=>h.base i hi hf
  | cons c w ih=>exact fun i hi hw hf=>hc i c hi (hw c (by simp)) (ih _ (hnx i c hi (hw c (by simp))) (fun d hd=>hw d (by simp [hd])) hf)
 exact fun i hi=>⟨h.sound i hi,fun ⟨w,hw,hf⟩=>key w i hi hw hf⟩
theorem LInv.done (h:LInv N F n D0 D false i c) (hi:n≤i) (hnx:∀i c,i < n→c < 8→Em N i c < n):∀i,i < n→(bt D i=true↔Bn N F i):=by
 rcases h.so with ⟨_,_,h3⟩|⟨h1,_⟩
 ·exact MZ hnx h.lsd fun i' c' a b e=>h3 i' c' a b (by omega) e
 ·cases h1
end
def ci (C:List Int) (i:Nat):Int:=(C[i]?).getD (-1)
def Ci (N:List (List Int)) (C:List Int) (i:Nat):List Int:=ci C i::(List.range 8).map fun c=>ci C (Em N i c)
structure Part (N:List (List Int)) (F:List Bool) (n:Nat) (C:List Int):Prop where
 len:C.length=n
 neg:∀i,i < n→¬Bn N F i→ci C i= -1
 pos:∀i,i < n→Bn N F i→0≤ci C i
 same:∀i j,i < n→j < n→CY N F i=CY N F j→ci C i=ci C j
 fin:∀i j,i < n→j < n→Bn N F i→ci C i=ci C j→Dv F i=Dv F j
def cR (n:Nat) (C:List Int) (k:Nat):Prop:=(∀i,i < n→0≤ci C i→ci C i < k)∧∀j:Nat,j < k→∃i,i < n∧ci C i=j
structure Rnd (N:List (List Int)) (n:Nat) (C C':List Int) (M:List (List Int×Int)):Prop where
 len:C'.length=n
 neg:∀i,i < n→ci C i < 0→ci C' i= -1
 pos:∀i,i < n→0≤ci C i→A8 (Ci N C i) M=some (ci C' i)
 idx:∀(j:Nat) (q:List Int×Int),M[j]?=some q→q.2=(j:Int)∧∃i,i < n∧0≤ci C i∧q.1=Ci N C i
 nodup:(M.map (·.1)).Nodup
section
variable {N:List (List Int)} {F:List Bool} {n:Nat} {C C':List Int} {M:List (List Int×Int)}
theorem Ra {α:Type} [DecidableEq α] {a:α} {M:List (α×Int)} (hn:(M.map (·.1)).Nodup) {j:Nat} {v:Int} (h:M[j]?=some (a,v)):A8 a M=some v:=by
 induction M generalizing j with
 | nil=>simp at h
 | cons q M ih=>
   rw [D9]
   cases j with
   | zero=>simp at h;subst h;simp
   | succ j=>
     simp only [List.getElem?_cons_succ] at h
     simp only [List.map_cons,List.nodup_cons] at hn
     rw [if_neg]
     ·exact ih hn.2 h
     ·intro e
      exact hn.1 (e▸List.mem_map.2 ⟨_,List.mem_of_getElem? h,rfl⟩)
theorem Rnd.val (h:Rnd N n C C' M) {i:Nat} (hi:i < n) (hp:0≤ci C i):∃j:Nat,ci C' i=j∧j < M.length∧M[j]?=some (Ci N C i,(j:Int)):=by
 obtain ⟨j,hj⟩:=Jf (h.pos i hi hp)
 have:=(h.idx j _ hj).1
 exact ⟨j,this,(List.getElem?_eq_some_iff.1 hj).1,by rw [hj];exact congrArg some (Prod.ext rfl this)⟩
theorem Rnd.sig (h:Rnd N n C C' M) {i j:Nat} (hi:i < n) (hj:j < n) (hp:0≤ci C i) (e:ci C' i=ci C' j):Ci N C i=Ci N C j:=by
 by_cases hq:0≤ci C j
 ·obtain ⟨a,a1,_,a3⟩:=h.val hi hp
  obtain ⟨b,b1,_,b3⟩:=h.val hj hq
  obtain rfl:a=b:=by omega
  rw [a3] at b3
  exact (Prod.ext_iff.1 (Option.some.inj b3)).1
 ·obtain ⟨a,a1,_,_⟩:=h.val hi hp
  have:=h.neg j hj (by omega)
  omega
theorem Rnd.eqv (h:Rnd N n C C' M) {i j:Nat} (hi:i < n) (hj:j < n) (hp:0≤ci C i) (e:Ci N C i=Ci N C j):ci C' i=ci C' j:=by
 have hq:0≤ci C j:=by
  have:ci C i=ci C j:=by simp only [Ci,List.cons.injEq] at e;exact e.1
  omega
 have h1:=h.pos i hi hp
 have h2:=h.pos j hj hq
 rw [e,h2] at h1
 exact (Option.some.inj h1).symm
theorem Part.alive (h:Part N F n C) {i:Nat} (hi:i < n) (hp:0≤ci C i):Bn N F i:=Classical.byContradiction fun hn=>by
 have:=h.neg i hi hn
 omega
theorem Ma (hnx:∀i c,i < n→c < 8→Em N i c < n) (h:Part N F n C) (hr:Rnd N n C C' M):Part N F n C'∧cR n C' M.length:=by
 have hal:∀i,i < n→¬Bn N F i→ci C i < 0:=fun i hi hn=>by have:=h.neg i hi hn;omega
 refine ⟨⟨hr.len,fun i hi hn=>hr.neg i hi (hal i hi hn),fun i hi ha=>?_,fun i j hi hj e=>?_,fun i j hi hj ha e=>?_⟩,fun i hi hp=>?_,fun j hj=>?_⟩
 ·obtain ⟨j,a,_,_⟩:=hr.val hi (h.pos i hi ha)
  omega
 ·by_cases ha:Bn N F i
  ·refine hr.eqv hi hj (h.pos i hi ha) ?_
   unfold Ci
   rw [h.same i j hi hj e]
   refine congrArg _ (List.map_congr_left fun c hc=>?_)
   have hc:=List.mem_range.1 hc
   exact h.same _ _ (hnx i c hi hc) (hnx j c hj hc) (by rw [HX hc,HX hc,e])
  ·have hb:¬Bn N F j:=by
    rw [D6] at ha ⊢
    rw [←e]
    exact ha
   rw [hr.neg i hi (hal i hi ha),hr.neg j hj (hal j hj hb)]
 ·have hs:=hr.sig hi hj (h.pos i hi ha) e
  have:ci C i=ci C j:=by simp only [Ci,List.cons.injEq] at hs;exact hs.1
  exact h.fin i j hi hj ha this
 ·by_cases hq:0≤ci C i
  ·obtain ⟨j,a,b,_⟩:=hr.val hi hq
   omega
  ·have:=hr.neg i hi (by omega)
   omega
 ·obtain ⟨q,hq⟩:∃q,M[j]?=some q:=⟨_,List.getElem?_eq_getElem hj⟩
  obtain ⟨e,i,hi,hp,e2⟩:=hr.idx j q hq
  refine ⟨i,hi,?_⟩
  have h1:=Ra hr.nodup (a:=q.1) (v:=q.2) hq
  have h2:=hr.pos i hi hp
  rw [←e2,h1] at h2
  exact (Option.some.inj h2).symm.trans e
theorem Y9 {k m:Nat} (f:Nat→Nat) (hf:∀j,j < k→f j < m) (hi:∀i j,i < k→j < k→f i=f j→i=j):k≤m∧(k=m→∀y,y < m→∃x,x < k∧f x=y):=by
 have hnd:((List.range k).map f).Nodup:=by
  refine List.Pairwise.map _ ?_ (List.Pairwise.and_mem.1 (List.nodup_range (n:=k)))
  rintro a b ⟨ha,hb,hne⟩ e
  exact hne (hi a b (List.mem_range.1 ha) (List.mem_range.1 hb) e)
 constructor
 ·have:=De m ((List.range k).map f) hnd (fun x hx=>by
   obtain ⟨j,hj,rfl⟩:=List.mem_map.1 hx
   exact hf j (List.mem_range.1 hj))
  simpa using this
 ·intro e y hy
  refine Classical.byContradiction fun hn=>?_
  have:=De m (y::(List.range k).map f) (List.nodup_cons.2 ⟨fun hm=>by
   obtain ⟨j,hj,e⟩:=List.mem_map.1 hm
   exact hn ⟨j,List.mem_range.1 hj,e⟩,hnd⟩) (fun x hx=>by
   rcases List.mem_cons.1 hx with rfl|hx
   ·exact hy
   ·obtain ⟨j,hj,rfl⟩:=List.mem_map.1 hx
    exact hf j (List.mem_range.1 hj))
  simp at this
  omega
theorem Rb (h:Part N F n C) (hr:Rnd N n C C' M) {many:Nat} (hm:many=0∨cR n C many):many≤M.length∧M.length≤n∧(M.length=many→∀i j,i < n→j < n→0≤ci C i→ci C i=ci C j→ci C' i=ci C' j):=by
 have hn2:M.length≤n:=by
  have hidx:∀j,j < M.length→∃i,i < n∧0≤ci C i∧ci C' i=j:=fun j hj=>by
   obtain ⟨q,hq⟩:∃q,M[j]?=some q:=⟨_,List.getElem?_eq_getElem hj⟩
   obtain ⟨e,i,hi,hp,e2⟩:=hr.idx j q hq
   refine ⟨i,hi,hp,?_⟩
   have h1:=Ra hr.nodup (a:=q.1) (v:=q.2) hq
   have h2:=hr.pos i hi hp
   rw [←e2,h1] at h2
   exact (Option.some.inj h2).symm.trans e
  let g:Nat→Nat:=fun j=>if hj:j < M.length then (hidx j hj).choose else 0
  have hg:∀j (hj:j < M.length),g j < n∧ci C' (g j)=j:=fun j hj=>by
   have:=(hidx j hj).choose_spec
   simp only [g,dif_pos hj]
   exact ⟨this.1,this.2.2⟩
  exact (Y9 g (fun j hj=>(hg j hj).1) (fun i j hi hj e=>by
   have h1:=(hg i hi).2
   have h2:=(hg j hj).2
   rw [e,h2] at h1
   omega)).1
 rcases hm with rfl|⟨hm1,hm2⟩
 ·refine ⟨by omega,hn2,fun e i j hi hj hp _=>?_⟩
  obtain ⟨k,_,hk,_⟩:=hr.val hi hp
  omega
 ·let rep:Nat→Nat:=fun j=>if hj:j < many then (hm2 j hj).choose else 0
  have hrep:∀j (hj:j < many),rep j < n∧ci C (rep j)=j:=fun j hj=>by
   have:=(hm2 j hj).choose_spec
   simp only [rep,dif_pos hj]
   exact this
  let f:Nat→Nat:=fun j=>(ci C' (rep j)).toNat
  have hf:∀j (hj:j < many),f j < M.length∧ci C' (rep j)=f j:=fun j hj=>by
   obtain ⟨h1,h2⟩:=hrep j hj
   obtain ⟨k,a,b,_⟩:=hr.val h1 (by omega)
   simp only [f,a]
   exact ⟨by omega,by omega⟩
  have hfin:∀i j,i < many→j < many→f i=f j→i=j:=fun i j hi hj e=>by
   obtain ⟨h1,h2⟩:=hrep i hi
   obtain ⟨h3,h4⟩:=hrep j hj
   have hs:=hr.sig h1 h3 (by omega) (by rw [(hf i hi).2,(hf j hj).2,e])
   have:ci C (rep i)=ci C (rep j):=by simp only [Ci,List.cons.injEq] at hs;exact hs.1
   omega
  obtain ⟨l1,l2⟩:=Y9 f (fun j hj=>(hf j hj).1) hfin
  refine ⟨l1,hn2,fun e i j hi hj hp hij=>?_⟩
  have key:∀i,i < n→0≤ci C i→ci C' i=f (ci C i).toNat:=fun i hi hp=>by
   obtain ⟨k,a,b,_⟩:=hr.val hi hp
   obtain ⟨x,hx,ex⟩:=l2 e.symm k b
   obtain ⟨h1,h2⟩:=hrep x hx
   have hs:=hr.sig hi h1 hp (by rw [(hf x hx).2,ex,a])
   have:ci C i=ci C (rep x):=by simp only [Ci,List.cons.injEq] at hs;exact hs.1
   have e3:(ci C i).toNat=x:=by omega
   rw [e3,ex,a]
  rw [key i hi hp,key j hj (by omega),hij]
structure Cls (N:List (List Int)) (F:List Bool) (n:Nat) (C:List Int):Prop where
 part:Part N F n C
 lng:∀i j,i < n→j < n→ci C i=ci C j→CY N F i=CY N F j
theorem ZA (hnx:∀i c,i < n→c < 8→Em N i c < n) (h:Part N F n C) (hr:Rnd N n C C' M) {many:Nat} (hm:many=0∨cR n C many) (e:M.length=many):Cls N F n C':=by
 obtain ⟨hp',hn'⟩:=Ma hnx h hr
 obtain ⟨_,_,hst⟩:=Rb h hr hm
 have hst:=hst e
 refine ⟨hp',fun i j hi hj hij=>?_⟩
 have hdead:∀i j,i < n→j < n→ci C' i=ci C' j→(Bn N F i↔Bn N F j):=fun i j hi hj e=>by
  constructor
  ·intro ha
   have:=hp'.pos i hi ha
   exact hp'.alive hj (by omega)
  ·intro ha
   have:=hp'.pos j hj ha
   exact hp'.alive hi (by omega)
 have key:∀(w:List Nat) (i j:Nat),i < n→j < n→ci C' i=ci C' j→Eq w→Dv F (w.foldl (Em N) i)=Dv F (w.foldl (Em N) j):=by
  intro w
  induction w with
  | nil=>
    intro i j hi hj hij _
    by_cases ha:Bn N F i
    ·exact hp'.fin i j hi hj ha hij
    ·have hb:=fun x=>ha ((hdead i j hi hj hij).2 x)
     have z:∀k,¬Bn N F k→Dv F k=false:=fun k hk=>by
      cases hf:Dv F k with
      | false=>rfl
      | true=>exact absurd ⟨[],by simp [Eq],hf⟩ hk
     show Dv F i=Dv F j
     rw [z i ha,z j hb]
  | cons c w ih=>
    intro i j hi hj hij hw
    have hc:=hw c (by simp)
    have hw':Eq w:=fun d hd=>hw d (by simp [hd])
    by_cases ha:Bn N F i
    ·have hs:=hr.sig hi hj (h.pos i hi ha) hij
     have hcc:ci C (Em N i c)=ci C (Em N j c):=by
      simp only [Ci,List.cons.injEq] at hs
      have h1:=congrArg (fun l:List Int=>l[c]?) hs.2
      simp only [List.getElem?_map,List.getElem?_range hc,Option.map_some,Option.some.injEq] at h1
      exact h1
     refine ih _ _ (hnx i c hi hc) (hnx j c hj hc) ?_ hw'
     by_cases hq:0≤ci C (Em N i c)
     ·exact hst _ _ (hnx i c hi hc) (hnx j c hj hc) hq hcc
     ·rw [hr.neg _ (hnx i c hi hc) (by omega),hr.neg _ (hnx j c hj hc) (by omega)]
    ·have hb:=fun x=>ha ((hdead i j hi hj hij).2 x)
     have z:∀k,¬Bn N F k→Dv F ((c::w).foldl (Em N) k)=false:=fun k hk=>by
      cases hf:Dv F ((c::w).foldl (Em N) k) with
      | false=>rfl
      | true=>exact absurd ⟨c::w,hw,hf⟩ hk
     rw [z i ha,z j hb]
 exact VR fun w hw=>key w i j hi hj hij hw
end
end
section
open Go.RowKit
section
variable {C:Ctx} {K:ES→Prop}
theorem B3 {h:List (Option Ob)} {K:List (Option Ob)→Prop} (hk:K h):fH h K:=by rw [A7];exact hk
theorem Cx {n:Nat} {u:List (Nat×V)} {h:List (Option Ob)} (hk:UpE C K ⟨n,u,h++[none]⟩):UpE C K ⟨n,u,h⟩:=by
 have key:∀(id:Nat) (o:Ob),(h++[none])[id]?=some (some o)↔h[id]?=some (some o):=fun id o=>by
  rw [List.getElem?_append]
  split
  ·exact Iff.rfl
  ·rename_i hi
   constructor
   ·intro e
    match hj:id - h.length with
    | 0=>rw [hj] at e;cases e
    | j+1=>rw [hj] at e;simp at e
   ·intro e
    exact absurd (List.getElem?_eq_some_iff.1 e).1 hi
 refine ⟨BS (fun a w hr=>?_) hk.out⟩
 obtain ⟨I,bl,hp⟩:=hr.parts
 refine RP.rel (I:=I) (bl:=bl) ⟨hp.defers,hp.env,⟨fun id o ho=>hp.heap.obj id o ((key id o).1 ho),fun id i hi=>?_,hp.heap.apart,hp.heap.own,hp.heap.imm,hp.heap.kept⟩⟩
 obtain ⟨o,ho⟩:=hp.heap.live id i hi
 exact ⟨o,(key id o).2 ho⟩
def Dq (p m:Nat) (n:Nat):List V:=(List.range n).map fun j=>V.sl (j+p) 0 m
end
theorem FQ (p m n:Nat):(Dq p m n).length=n:=by simp [Dq]
theorem M5 {p m n j:Nat} (h:j < n):(Dq p m n)[j]?=some (.sl (j+p) 0 m):=by
 unfold Dq
 rw [List.getElem?_map,List.getElem?_range h]
 rfl
theorem P8 {p m n j:Nat} (h:j < n):(Dq p m n)[0+Int.toNat (j:Int)]?=some (.sl (j+p) 0 m):=by
 rw [Nat.zero_add,Int.toNat_natCast,M5 h]
theorem R4 {r:List Bool} {k:Nat} {b:Bool} (h:r[k]?=some b):(r.map V.bool)[0+Int.toNat (k:Int)]?=some (.bool b):=by
 rw [Nat.zero_add,Int.toNat_natCast,List.getElem?_map,h];rfl
def Dn (N:List (List Int)) (F:List Bool):V:=.agg [.lst (N.map BV),.lst (F.map V.bool)]
theorem Mg {N:List (List Int)} {i:Nat} {r:List Int} (h:N[i]?=some r):(N.map BV)[Int.toNat (i:Int)]?=some (BV r):=by
 rw [Int.toNat_natCast,List.getElem?_map,h];rfl
theorem Rg {r:List Bool} {x:Int} {b:Bool} (h:r[x.toNat]?=some b):(r.map V.bool)[0+Int.toNat x]?=some (.bool b):=by
 rw [Nat.zero_add,List.getElem?_map,h];rfl
set_option maxHeartbeats 16000000 in
theorem gZ {N:List (List Int)} {F:List Bool} {n:Nat} (h:WF n N F) (hn2:n≤1048576):
 Fn1 Tryz.prog 84 [Dn N F] (fun r=>∃D:List Bool,r= .lst (D.map V.bool)∧D.length=n∧∀i,i < n→(bt D i=true↔Bn N F i)):=by
 have hNm:(N.map BV).length=N.length:=by simp
 have hFm:(F.map V.bool).length=F.length:=by simp
 have hNl:=h.lenN
 have hFl:=h.lenF
 have hnx:∀i c,i < n→c < 8→Em N i c < n:=fun i c hi hc=>h.nx hi hc
 have hcl:=JX F (by omega)
 have hs0:Lsd N F n F:=⟨h.lenF,fun i hi e=>⟨[],by simp [Eq],by simpa [bt,Dv] using e⟩,fun i hi e=>by simpa [bt,Dv] using e⟩
 unfold Dn
 refine Ax Tryz.func84 fun C hC hE=>?_
 conv=>whnf
 repeat' (refine AY (Fz 1 (AH ?_));(conv=>whnf);refine Ig hcl hC FY 1 rfl ?_ rfl (A6 _) ?_;exact BA ⟨trivial,trivial⟩)<;>conv=>whnf
 refine Ab (fun ((D,more):List Bool×Bool)=>⟨46,[(1,.rp [.lst (N.map BV),.lst (F.map V.bool)]),(3,.sl 1 0 n),(4,.bool more)],[none,some (.row 1 (D.map V.bool))]⟩)
  (fun (D,more)=>Lsd N F n D∧(more=false→∀i,i < n→(bt D i=true↔Bn N F i))) (fun (D,more)=>2*bH D+more.toNat) (F,true) hE ?_ ⟨hs0,fun h=>by cases h⟩ ?_
 ·refine AK 0 (z:=2) (els:=[Dn N F]) rfl ⟨⟨trivial,trivial,trivial⟩,trivial⟩ (AP [1,3,4] ?_)
  conv=>whnf
  rw [AX _ _ (A6 F),hFl]
  rfl
 rintro ⟨D0,more⟩ ⟨hS0,hmore⟩
 have hD0m:(D0.map V.bool).length=D0.length:=by simp
 have hD0l:=hS0.len
 cases more with
 | false=>
   conv=>whnf
   repeat' (first|refine DD (A4 1 2 [] rfl ?_ rfl ?_ rfl (AH ?_))|refine AC hE ?_<;>conv=>whnf)
   ·exact A6 D0
   ·omega
   ·exact ⟨rfl,D0,rfl,hS0.len,hmore rfl⟩
 | true=>
   conv=>whnf
   repeat' intro hlen<;>conv=>whnf
   refine Ab (fun ((i,D,more):Nat×List Bool×Bool)=>⟨46,[(1,.rp [.lst (N.map BV),.lst (F.map V.bool)]),(3,.sl 1 0 n),(4,.bool more),(14,.lst (N.map BV)),(15,.int .i64 n),(16,.int .i64 i)],[none,some (.row 1 (D.map V.bool))]⟩)
    (fun (i,D,more)=>i≤n∧LInv N F n D0 D more i 0) (fun (i,_,_)=>n - i) (0,D0,false) hE ?_ ⟨Nat.zero_le _,LInv.start hS0⟩ ?_
   ·refine AP [1,3,4,14,15,16] ?_
    conv=>whnf
    rw [hNm,hNl]
    rfl
   rintro ⟨i,D,more⟩ ⟨hi,hI⟩
   by_cases hlt:i < n
   ·obtain ⟨row,hrow⟩:∃x,N[i]?=some x:=⟨_,List.getElem?_eq_getElem (by omega)⟩
    obtain ⟨h8,hxs⟩:=h.rows row (List.mem_of_getElem? hrow)
    obtain ⟨a0,a1,a2,a3,a4,a5,a6,a7,rfl⟩:=M6 h8
    have g1:=Mg hrow
    conv=>whnf
    repeat' (first|refine A2 ?_|refine AO ?_|refine Ad ?_)<;>conv=>whnf
    refine Ab (fun ((c,D,more):Nat×List Bool×Bool)=>⟨46,[(1,.rp [.lst (N.map BV),.lst (F.map V.bool)]),(3,.sl 1 0 n),(4,.bool more),(5,.int .i64 i),(14,.lst (N.map BV)),(15,.int .i64 n),(16,.int .i64 i),(21,BV [a0,a1,a2,a3,a4,a5,a6,a7]),(22,.int .i64 c)],[none,some (.row 1 (D.map V.bool))]⟩)
     (fun (c,D,more)=>c≤8∧LInv N F n D0 D more i c) (fun (c,_,_)=>8 - c) (0,D,more) hE ?_ ⟨Nat.zero_le _,hI⟩ ?_
    ·refine EQ [1,3,4,5,14,15,16,21,22] [0] ?_
     conv=>whnf
     rw [AA _ (A6 D)]
     rfl
    clear hI
    rintro ⟨c,D,more⟩ ⟨hc,hI⟩
    have hDm:(D.map V.bool).length=D.length:=by simp
    have hDl:=hI.lsd.len
    by_cases hc8:c < 8
    ·obtain ⟨row',x,hrow',_,hxc,hx0,hxn,ex⟩:=h.get hlt hc8
     rw [hrow] at hrow'
     cases hrow'
     have hxt:x.toNat < n:=by omega
     have g2:=Rg (KG hDl hxt)
     have g3:=R4 (KG hDl hlt)
     have hpass:=fun hf=>hI.pass (by rw [ex];exact hf)
     have hput:=fun hf hd=>hI.put hnx hlt hc8 hf (by rw [ex];exact hd) (c+1)
     obtain ⟨bx,ebx⟩:∃b,bt D x.toNat=b:=⟨_,rfl⟩
     obtain ⟨bi,ebi⟩:∃b,bt D i=b:=⟨_,rfl⟩
     rw [ebx] at g2 hpass hput
     rw [ebi] at g3 hpass hput
     clear hI ex
     obtain rfl|rfl|rfl|rfl|rfl|rfl|rfl|rfl:c=0∨c=1∨c=2∨c=3∨c=4∨c=5∨c=6∨c=7:=by omega
     all_goals simp only [List.getElem?_cons_zero,List.getElem?_cons_succ,Option.some.injEq] at hxc
     all_goals subst hxc
     all_goals cases bx
     all_goals cases bi
     all_goals
      conv=>whnf
      repeat' (first|refine A2 ?_|refine AO ?_|refine AV ?_|refine Ad ?_)<;>conv=>whnf
      first
      | (refine AD [1,3,4,5,14,15,16,21,22] (_+1,D,more) ⟨?_,hpass (by first|exact .inl rfl|exact .inr rfl)⟩ ?_ ?_
         ·omega
         ·show 8 - _ < 8 - _;omega
         conv=>whnf
         rfl)
      | (refine AD [1,3,4,5,14,15,16,21,22] (_+1,D.set i true,true) ⟨?_,hput rfl rfl⟩ ?_ ?_
         ·omega
         ·show 8 - _ < 8 - _;omega
         conv=>whnf
         rw [Nat.zero_add,Int.toNat_natCast]
         show _=(⟨46,_,[none,some (.row 1 ((D.set i true).map V.bool))]⟩:ES)
         rw [List.map_set]
         rfl)
    ·obtain rfl:c=8:=by omega
     conv=>whnf
     repeat' (first|refine A1 ?_|refine AV ?_)<;>conv=>whnf
     refine AD [1,3,4,14,15,16] (i+1,D,more) ⟨hlt,hI.row (by omega)⟩ (by show n - (i+1) < n - i;omega) ?_
     conv=>whnf
     rfl
   ·conv=>whnf
    repeat' refine A1 ?_<;>conv=>whnf
    refine AD [1,3,4] (D,more) ⟨hI.lsd,fun e=>by subst e;exact hI.done (by omega) hnx⟩ ?_ ?_
    ·show 2*bH D+more.toNat < 2*bH D0+1
     rcases hI.so with ⟨rfl,rfl,_⟩|⟨rfl,h⟩
     ·simp
     ·simp;omega
    conv=>whnf
def Jn (P:Ps) (La:List Bool) (n:Int) (a:List Int×Bool×Bool) (k:Int):List Int×Bool×Bool:=
 if CV P.T k.toNat=n then (a.1++AE P.F k.toNat,true,a.2.2 || La.getD k.toNat false) else a
def dV (P:Ps) (La:List Bool) (q:List Int) (n:Int):List Int×Bool×Bool:=q.foldl (Jn P La n) ([],false,false)
def aU (P:Ps) (La:List Bool) (q:List Int) (a:Kn×List Int) (n:Nat):Kn×List Int:=
 if (dV P La q n).2.1 then ((NS (dV P La q n).1 (dV P La q n).2.2 a.1).2,a.2++[(NS (dV P La q n).1 (dV P La q n).2.2 a.1).1]) else (a.1,a.2++[-1])
def Hh (P:Ps) (La:List Bool) (q:List Int) (K:Kn) (c:Nat):Kn×List Int:=(List.range c).foldl (aU P La q) (K,[])
theorem Ka (P:Ps) (La:List Bool) (q:List Int) (K:Kn) (c:Nat):Hh P La q K (c+1)=aU P La q (Hh P La q K c) c:=by
 unfold Hh
 rw [List.range_succ,List.foldl_append]
 rfl
def aV (P:Ps) (La:List Bool) (a:Kn×List (List Int)) (i:Nat):Kn×List (List Int):=
 ((Hh P La (a.1.getD i ([],false)).1 a.1 8).1,a.2++[(Hh P La (a.1.getD i ([],false)).1 a.1 8).2])
def Gz (P:Ps) (La:List Bool) (p:Pt) (i:Nat):Kn×List (List Int):=(List.range i).foldl (aV P La) ((NS p.first p.none []).2,[])
theorem Kb (P:Ps) (La:List Bool) (p:Pt) (i:Nat):Gz P La p (i+1)=aV P La (Gz P La p i) i:=by
 unfold Gz
 rw [List.range_succ,List.foldl_append]
 rfl
def Ae (n:Nat) (l:List Int):List Bool:=l.foldl (fun a k=>a.set k.toNat true) (List.replicate n false)
theorem UC (n:Nat) (l:List Int) (k:Int):Ae n (l++[k])=(Ae n l).set k.toNat true:=by
 unfold Ae
 rw [List.foldl_append]
 rfl
theorem Xe (n:Nat) (l:List Int):(Ae n l).length=n:=by
 have:∀(l:List Int) (a:List Bool),(l.foldl (fun a k=>a.set k.toNat true) a).length=a.length:=by
  intro l
  induction l with
  | nil=>intro a;rfl
  | cons k l ih=>intro a;rw [List.foldl_cons,ih];simp
 unfold Ae
 rw [this]
 simp
theorem SR (P:Ps) (La:List Bool) (q:List Int) (K:Kn):∀c,(Hh P La q K c).2.length=c∧K.length≤(Hh P La q K c).1.length∧(Hh P La q K c).1.length≤K.length+c∧∀(j:Nat) (x:List Int×Bool),K[j]?=some x→(Hh P La q K c).1[j]?=some x:=by
 intro c
 induction c with
 | zero=>exact ⟨rfl,Nat.le_refl _,Nat.le_refl _,fun j x h=>h⟩
 | succ c ih=>
   obtain ⟨h1,h2,h3,h4⟩:=ih
   rw [Ka]
   unfold aU
   split
   ·refine ⟨by simp [h1],?_⟩
    unfold NS
    split
    ·exact ⟨h2,Nat.le_trans h3 (by omega),h4⟩
    ·refine ⟨?_,?_,fun j x h=>?_⟩
     ·simp only [List.length_append];omega
     ·simp only [List.length_append,List.length_cons,List.length_nil];omega
     ·exact (List.getElem?_append_left (List.getElem?_eq_some_iff.1 (h4 j x h)).1).trans (h4 j x h)
   ·exact ⟨by simp [h1],h2,Nat.le_trans h3 (by omega),h4⟩
theorem SS (P:Ps) (La:List Bool) (p:Pt):∀i,(Gz P La p i).2.length=i:=by
 intro i
 induction i with
 | zero=>rfl
 | succ i ih=>rw [Kb];unfold aV;simp [ih]
structure OkSets (P:Ps) (p:Pt) (R:Nat):Prop where
 len:P.F.length=P.T.length
 four:P.T.length≤4
 last:∀k∈p.last,0≤k∧k < (P.T.length:Int)
 ll:p.last.length≤12
 fl:p.first.length≤12
 fb:∀k∈p.first,0≤k∧k < 4
 rl:R≤100
 rows:∀r∈P.F,r.length≤12
 go:∀i,i < R→i < (Gz P (Ae P.T.length p.last) p i).1.length
 many:∀i,i≤R→(Gz P (Ae P.T.length p.last) p i).1.length≤900
 fin:(Gz P (Ae P.T.length p.last) p R).1.length=R
 q:∀i,i < R→∀k∈((Gz P (Ae P.T.length p.last) p i).1.getD i ([],false)).1,0≤k∧k < (P.T.length:Int)
 ql:∀i,i < R→((Gz P (Ae P.T.length p.last) p i).1.getD i ([],false)).1.length≤12
 to:∀i,i < R→∀n,n < 8→∀k∈(dV P (Ae P.T.length p.last) ((Gz P (Ae P.T.length p.last) p i).1.getD i ([],false)).1 (n:Nat)).1,0≤k∧k < (P.T.length:Int)
 tol:∀i,i < R→∀n,n < 8→(dV P (Ae P.T.length p.last) ((Gz P (Ae P.T.length p.last) p i).1.getD i ([],false)).1 (n:Nat)).1.length≤12
def Xf:Nat→Nat|0=>5|1=>3|2=>2|3=>4|4=>6|5=>7|6=>8|j=>j
def fe (K:Kn) (N:List (List Int)):List Ob:=[.row 1 [.it 4],.row 1 [.sl 6 0 K.length],.row 2 [.agg [.sl 7 0 N.length,.sl 8 0 K.length]],Jv DC (LL K),.row 1 (K.map fun q=>AL q.1),.row 8 (N.map BV),.row 1 (K.map fun q=>V.bool q.2)]
theorem aW (K:Kn) (N:List (List Int)):∀(j:Nat) (o o':Ob),(fh K N)[j]?=some o→(fe K N)[j]?=some o'→Ns 7 Xf o o':=by
 intro j o o' h h'
 match j,h,h' with
 | 0,h,h'=>cases h;cases h';exact ⟨_,rfl,_,_,rfl,⟨by decide,rfl⟩,rfl⟩
 | 1,h,h'=>cases h;cases h';exact ⟨_,rfl,_,_,rfl,⟨by decide,rfl⟩,rfl⟩
 | 2,h,h'=>cases h;cases h';exact ⟨_,rfl,_,_,rfl,⟨_,rfl,_,_,rfl,⟨by decide,rfl⟩,_,_,rfl,⟨by decide,rfl⟩,rfl⟩,rfl⟩
 | 3,h,h'=>cases h;cases h';rfl
 | 4,h,h'=>cases h;cases h';exact ⟨_,rfl,BA (F0 K)⟩
 | 5,h,h'=>cases h;cases h';exact ⟨_,rfl,BA (Cc N)⟩
 | 6,h,h'=>cases h;cases h';exact ⟨_,rfl,BA (Ds K)⟩
 | j+7,h,_=>simp [fh] at h
theorem Gj {C:Ctx} {fop:Operand} {args:List Operand} {KK:V→ES→Prop} {σ:ES} (l:List Int) (f:Bool) (K:Kn) (N:List (List Int)) (hl:l.length≤12) (hK:K.length≤1000) (hb:∀x∈l,-9223372036854775808≤x∧x≤9223372036854775807) (hg:GC C GT) (hC:C.P=Tryz.prog)
 (he:BO σ fop args=some (53,[.lst (l.map (V.int .i64)),.bool f,.ptr 5 0 0,.ptr 3 0 0,.ptr 2 0 0])) (hobj:∀(j:Nat) (o:Ob),(fe K N)[j]?=some o→σ.heap[Xf j]?=some (some o))
 (hk:fH (BL Xf (fe (NS l f K).2 N) 0 (BG [4,6,7,8] σ.heap)) fun h=>KK (.int .i64 (NS l f K).1) ⟨σ.n,DE [4,6,7,8] σ.u,h⟩):CallN C fop args 53 [.lst (l.map (V.int .i64)),.bool f,.ptr 5 0 0,.ptr 3 0 0,.ptr 2 0 0] KK σ:=by
 rw [A7] at hk
 have lt7:∀j:Nat,(h:Nat.blt j 7=true:=by decide)→j < (fh K N).length:=fun j h=>Di.1 h
 have hcs:∀j,j < 7→j=0∨j=1∨j=2∨j=3∨j=4∨j=5∨j=6:=fun j hj=>by omega
 refine cn (dZ l f K N hl hK hb) hg hC UZ he Xf (fun i j hi hj e=>?_) ?_ (fun j o ho=>?_) [4,6,7,8] (fun j hj hm=>?_) (fun j hj=>?_) ?_
 ·rcases hcs i hi with rfl|rfl|rfl|rfl|rfl|rfl|rfl<;>rcases hcs j hj with rfl|rfl|rfl|rfl|rfl|rfl|rfl<;>first|rfl|(simp [Xf] at e)
 ·exact ⟨_,_,rfl,rfl,_,_,rfl,rfl,_,_,rfl,⟨lt7 0,rfl⟩,_,_,rfl,⟨lt7 1,rfl⟩,_,_,rfl,⟨lt7 2,rfl⟩,rfl⟩
 ·have hj:j < 7:=(List.getElem?_eq_some_iff.1 ho).1
  obtain ⟨o',ho'⟩:∃o',(fe K N)[j]?=some o':=⟨_,List.getElem?_eq_getElem hj⟩
  exact ⟨o',hobj j o' ho',aW K N j o o' ho ho'⟩
 ·rcases hcs j hj with rfl|rfl|rfl|rfl|rfl|rfl|rfl<;>first|decide|exact absurd (by decide) hm
 ·simp only [List.mem_cons,List.not_mem_nil,or_false] at hj
  rcases hj with rfl|rfl|rfl|rfl
  ·exact ⟨3,lt7 3,rfl⟩
  ·exact ⟨4,lt7 4,rfl⟩
  ·exact ⟨5,lt7 5,rfl⟩
  ·exact ⟨6,lt7 6,rfl⟩
 ·rintro r0 objs' ⟨rfl,rfl⟩ _
  exact ⟨_,fe (NS l f K).2 N,rfl,rfl,fun j o o' h1 h2=>aW _ N j o o' h1 h2,hk⟩
theorem QX {K:Kn} {N:List (List Int)} {h:List (Option Ob)} (h5:h[5]?=some (some (.row 1 [.it 4]))) (h3:h[3]?=some (some (.row 1 [.sl 6 0 K.length]))) (h2:h[2]?=some (some (.row 2 [.agg [.sl 7 0 N.length,.sl 8 0 K.length]]))) (h4:h[4]?=some (some (Jv DC (LL K))))
 (h6:h[6]?=some (some (.row 1 (K.map fun q=>AL q.1)))) (h7:h[7]?=some (some (.row 8 (N.map BV)))) (h8:h[8]?=some (some (.row 1 (K.map fun q=>V.bool q.2)))):∀(j:Nat) (o:Ob),(fe K N)[j]?=some o→h[Xf j]?=some (some o):=by
 intro j o ho
 match j,ho with
 | 0,ho=>cases ho;exact h5
 | 1,ho=>cases ho;exact h3
 | 2,ho=>cases ho;exact h2
 | 3,ho=>cases ho;exact h4
 | 4,ho=>cases ho;exact h6
 | 5,ho=>cases ho;exact h7
 | 6,ho=>cases ho;exact h8
 | j+7,ho=>simp [fe] at ho
theorem aX (to row:List Int):List.take to.length (List.drop 0 (to.map (V.int .i64)))++row.map (V.int .i64)=(to++row).map (V.int .i64):=by
 rw [List.drop_zero,List.take_of_length_le (by simp),List.map_append]
theorem aY (to row:List Int):to.length+(row.map (V.int .i64)).length=(to++row).length:=by
 rw [List.length_append,List.length_map]
theorem PA (id:Nat) (A:List Int):AF id [BV A]=[BV A]:=AA id ⟨QA A,trivial⟩
end
end Go.Proofs.YtkaiffheakalmaaGreatDoor
