/- Copied, stripped. No conditions. -/
import Derived.Test.YtkaiffheakalmaaGreatDoorU9TlZe
set_option linter.unusedSimpArgs false
set_option linter.unusedVariables false
set_option maxRecDepth 100000
namespace Go.Proofs.YtkaiffheakalmaaGreatDoor
open Go.RowKit
theorem Of {S:Ps} {n:Nat} {ρ:Nat→Nat} (hF:S.F.length≤4) (hn:7≤n) (hρ:∀j,j < 7→ρ j=j):∀(j:Nat) (o:Ob),(Bj S)[j]?=some o→Mf n ρ o o:=by
  have hrow:∀l:List Int,Mf n ρ (.row 1 (l.map (V.int .i64))) (.row 1 (l.map (V.int .i64))):=fun l=>Hp (AE l)
  intro j o h
  match j,h with
  | 0,h=>
    cases h
    refine ⟨_,rfl,?_⟩
    unfold Qw
    simp only [FC,Bu]
    exact ⟨_,_,rfl,⟨_,rfl,_,_,rfl,⟨by omega,by rw [hρ 1 (by decide)]⟩,_,_,rfl,⟨by omega,by rw [hρ 2 (by decide)]⟩,_,_,rfl,rfl,_,_,rfl,rfl,_,_,rfl,rfl,rfl⟩,rfl⟩
  | 1,h=>cases h;exact hrow _
  | 2,h=>
    cases h
    refine ⟨_,rfl,Wp rfl fun i c c' hc hc'=>?_⟩
    rw [hc] at hc'
    cases hc'
    unfold CC at hc
    rw [List.getElem?_map,Option.map_eq_some_iff] at hc
    obtain ⟨a,ha,rfl⟩:=hc
    have:=List.mem_range.1 (List.mem_of_getElem? ha)
    simp only [Bu]
    exact ⟨by omega,by rw [hρ (3+a) (by omega)]⟩
  | 3,h=>cases h;exact hrow _
  | 4,h=>cases h;exact hrow _
  | 5,h=>cases h;exact hrow _
  | 6,h=>cases h;exact hrow _
  | j+7,h=>simp [Bj] at h
theorem Ew:∀l:List Int,J9 (l.map (V.int .i64))=true
  | []=>rfl
  | x::l=>by simp only [List.map_cons,J9,V.noI,Ew l,Bool.and_true]
theorem Tq (S:Ps):∀(j:Nat) (o:Ob),(Bj S)[j]?=some o→o.noI=true:=by
  intro j o h
  match j,h with
  | 0,h=>cases h;rfl
  | 1,h=>cases h;exact Ew _
  | 2,h=>
    cases h
    show J9 (CC S.F)=true
    unfold CC
    have:∀l:List Nat,J9 (l.map fun j=>V.sl (3+j) 0 (AF S.F j).length)=true:=by
      intro l
      induction l with
      | nil=>rfl
      | cons j l ih=>simp only [List.map_cons,J9,V.noI,ih,Bool.and_true]
    exact this _
  | 3,h=>cases h;exact Ew _
  | 4,h=>cases h;exact Ew _
  | 5,h=>cases h;exact Ew _
  | 6,h=>cases h;exact Ew _
  | j+7,h=>simp [Bj] at h
theorem EQ {S:Ps} (hF:S.F.length≤4) {id:Nat} (h8:7≤id) (els:List V):∀(j:Nat) (o:Ob),(Bj S)[j]?=some o→o.frz id els=o:=by
  have hrow:∀l:List Int,(Ob.row 1 (l.map (V.int .i64))).frz id els= .row 1 (l.map (V.int .i64)):=fun l=>by simp only [Ob.frz];rw [AZ _ _ (AE l)]
  intro j o h
  match j,h with
  | 0,h=>
    cases h
    simp only [Ob.frz,Qw,An,V.frz]
    rw [if_neg (by omega),if_neg (by omega)]
  | 1,h=>cases h;exact hrow _
  | 2,h=>
    cases h
    simp only [Ob.frz]
    congr 1
    unfold CC
    have:∀l:List Nat,(∀j∈l,j < 4)→An id els (l.map fun j=>V.sl (3+j) 0 (AF S.F j).length)=l.map fun j=>V.sl (3+j) 0 (AF S.F j).length:=by
      intro l
      induction l with
      | nil=>intro _;rfl
      | cons j l ih=>
        intro hj
        have h1:=hj j (by simp)
        simp only [List.map_cons,An]
        rw [ih fun k hk=>hj k (by simp [hk]),Er els (by omega)]
    exact this _ fun j hj=>by have:=List.mem_range.1 hj;omega
  | 3,h=>cases h;exact hrow _
  | 4,h=>cases h;exact hrow _
  | 5,h=>cases h;exact hrow _
  | 6,h=>cases h;exact hrow _
  | j+7,h=>simp [Bj] at h
theorem Ey {S0:Ps} {h:List (Option Ob)} (e:h.take 7=(Bj S0).map some):∀(j:Nat) (o:Ob),(Bj S0)[j]?=some o→h[j]?=some (some o):=by
  intro j o ho
  have hj:j < 7:=(List.getElem?_eq_some_iff.1 ho).1
  have:=congrArg (fun l:List (Option Ob)=>l[j]?) e
  simp only [List.getElem?_take,if_pos hj,List.getElem?_map,ho] at this
  exact this
theorem Lx {C:Ctx} {P:Program} {f:FuncId} {xs:List V} {S0 S1:Ps} {R0:V} {fop:Operand} {args:List Operand} {K:V→ES→Prop} {σ:ES} (h:HFn P f xs (Bj S0) [0] (fun r o=>r=R0∧o=Bj S1)) (hC:C.P=P) (hb:AD P f=true)
    (he:B3 σ fop args=some (f,xs)) (hxs:FC 7 (fun j=>j) xs xs) (hobj:∀(j:Nat) (o:Ob),(Bj S0)[j]?=some o→σ.heap[j]?=some (some o)) (h0:S0.F.length≤4) (h1:S1.F.length≤4) (hR:R0.nr)
    (hK:fH (BG (fun j=>j) (Bj S1) 0 (BA [1,2,3,4,5,6] σ.heap)) fun h=>K R0 ⟨σ.n,Cq [1,2,3,4,5,6] σ.u,h⟩):CallN C fop args f xs K σ:=by
  rw [BB] at hK
  refine TZ h hC hb he hxs (fun j o ho=>⟨hobj j o ho,Of h0 (Nat.le_refl _) (fun _ _=>rfl) j o ho⟩) [1,2,3,4,5,6] (fun j hj hm=>?_) (fun j hj=>?_) (En _ hR) (Of h1 (Nat.le_refl _) (fun _ _=>rfl)) rfl hK
  . simp only [List.mem_cons,List.not_mem_nil,or_false] at hm ⊢
    have:j < 7:=hj
    omega
  . simp only [List.mem_cons,List.not_mem_nil,or_false] at hj
    show j < 7
    omega
theorem Rq (k:Int) (out q:Pt) (S:Ps):(GJ k out q S).2.T=S.T:=by unfold GJ;split<;>rfl
theorem Ly (k:Int):∀(a b:List Ex) (out:Pt) (S:Ps),Cn k (a++b) out S=Cn k b (Cn k a out S).1 (Cn k a out S).2
  | [],b,out,S=>by simp [Cn]
  | y::a,b,out,S=>by
    rw [List.cons_append,Cn,Cn]
    exact Ly k a b _ _
theorem Rr:∀(N:Nat),(∀(x:Ex) (S:Ps),EY x≤N→S.T.length≤(BO x S).2.T.length)∧(∀(k:Int) (ps:List Ex) (S:Ps) (out:Pt),A7 ps≤N→S.T.length≤(Cn k ps out S).2.T.length):=by
  intro N
  induction N using Nat.strongRecOn with
  | _ N ih=>
    have hE:∀(x:Ex) (S:Ps),EY x≤N→S.T.length≤(BO x S).2.T.length:=by
      rintro ⟨k,t,ps⟩ S hx
      rw [CV] at hx
      rw [BO]
      split
      . simp
      . have h1:=(ih (A7 ps) (by omega)).2 k ps S ⟨[],[],decide (k=2)⟩ (Nat.le_refl _)
        unfold OS
        split<;>exact h1
    refine ⟨hE,?_⟩
    intro k ps S out hps
    induction ps generalizing S out with
    | nil=>rw [Cn];exact Nat.le_refl _
    | cons y ps ih2=>
      rw [Cn]
      have hsz:A7 (y::ps)=EY y+A7 ps:=by rw [A7]
      have hy:=hE y S (by omega)
      refine Nat.le_trans hy ?_
      have:=ih2 (GJ k out (BO y S).1 (BO y S).2).2 (GJ k out (BO y S).1 (BO y S).2).1 (by omega)
      rwa [Rq] at this
theorem HC (k:Int) (ps:List Ex) (S:Ps) (out:Pt) (j:Nat):(Cn k (ps.take j) out S).2.T.length≤(Cn k ps out S).2.T.length:=by
  have e:=Ly k (ps.take j) (ps.drop j) out S
  rw [List.take_append_drop] at e
  rw [e]
  exact (Rr _).2 k (ps.drop j) _ _ (Nat.le_refl _)
def QL (a:Nat):Nat→Nat|7=>a|j=>j
def U0 (a b:Nat):Nat→Nat|7=>a|8=>b|j=>j
theorem FG (a:Nat):∀j,j < 7→QL a j=j:=fun j hj=>by
  match j,hj with
  | 0,_=>rfl|1,_=>rfl|2,_=>rfl|3,_=>rfl|4,_=>rfl|5,_=>rfl|6,_=>rfl
theorem Dt (a b:Nat):∀j,j < 7→U0 a b j=j:=fun j hj=>by
  match j,hj with
  | 0,_=>rfl|1,_=>rfl|2,_=>rfl|3,_=>rfl|4,_=>rfl|5,_=>rfl|6,_=>rfl
theorem Lz (S:Ps) (fr to:List Int) (hF:S.F.length≤4) (hfr:∀i∈fr,0≤i∧i < S.F.length) (hto:∀k∈to,0≤k∧k < S.F.length) (hB:BdF S.F.length S.F):
    HFn Tryz.prog 76 [.ptr 0 0 0,.sl 7 0 fr.length,.lst (to.map (V.int .i64))] (Bj S++[.row 1 (fr.map (V.int .i64))]) [7,0] (fun r o=>∃o0,(r= .tup []∧o0=Bj ⟨S.T,Au fr to S.F⟩)∧o=o0++[.row 1 (fr.map (V.int .i64))]):=by
  refine QK 7 1 (dj S fr to hF hfr hto hB) rfl (AE fr) ?_ (EQ hF (by decide) _) (fun j hj=>by simp at hj;omega) (fun r o h=>⟨by rw [h.1];rfl,by rw [h.2];exact Tq _⟩)
  show [_,(V.sl 7 0 fr.length).frz 7 (fr.map (V.int .i64)),_]=_
  rw [BY 7 _ (by simp)]
  rfl
theorem Rs (S:Ps) (fr to:List Int) (hF:S.F.length≤4) (hfr:∀i∈fr,0≤i∧i < S.F.length) (hto:∀k∈to,0≤k∧k < S.F.length) (hB:BdF S.F.length S.F):
    HFn Tryz.prog 76 [.ptr 0 0 0,.sl 7 0 fr.length,.sl 8 0 to.length] ((Bj S++[.row 1 (fr.map (V.int .i64))])++[.row 1 (to.map (V.int .i64))]) [8,7,0]
      (fun r o=>∃o1,(∃o0,(r= .tup []∧o0=Bj ⟨S.T,Au fr to S.F⟩)∧o1=o0++[.row 1 (fr.map (V.int .i64))])∧o=o1++[.row 1 (to.map (V.int .i64))]):=by
  refine QK 8 1 (Lz S fr to hF hfr hto hB) rfl (AE to) ?_ (fun j o ho=>?_) (fun j hj=>by simp at hj;omega) (fun r o h=>?_)
  . show [_,(V.sl 7 0 fr.length).frz 8 (to.map (V.int .i64)),(V.sl 8 0 to.length).frz 8 (to.map (V.int .i64))]=_
    rw [BY 8 _ (by simp),Er _ (by decide)]
    rfl
  . by_cases hj:j < 7
    . rw [List.getElem?_append_left (show j < (Bj S).length from hj)] at ho
      exact EQ hF (by decide) _ j o ho
    . rw [List.getElem?_append_right (show (Bj S).length≤j by show 7≤j;omega)] at ho
      have:j - (Bj S).length=j - 7:=rfl
      rw [this] at ho
      match hk:j - 7 with
      | 0=>
        rw [hk] at ho
        cases ho
        simp only [Ob.frz]
        rw [AZ _ _ (AE fr)]
      | n+1=>rw [hk] at ho;simp at ho
  . obtain ⟨o0,⟨h1,h2⟩,h3⟩:=h
    refine ⟨by rw [h1];rfl,fun j ob hob=>?_⟩
    subst h2
    subst h3
    by_cases hj:j < 7
    . rw [List.getElem?_append_left (show j < (Bj _).length from hj)] at hob
      exact Tq _ j ob hob
    . rw [List.getElem?_append_right (show (Bj _).length≤j by show 7≤j;omega)] at hob
      have:j - (Bj ⟨S.T,Au fr to S.F⟩).length=j - 7:=rfl
      rw [this] at hob
      match hk:j - 7 with
      | 0=>
        rw [hk] at hob
        cases hob
        exact Ew fr
      | n+1=>rw [hk] at hob;simp at hob
theorem U1 {C:Ctx} {P:Program} {f:FuncId} {xs0 xs:List V} {S0 S1:Ps} {R0:V} {l:List Int} {fop:Operand} {args:List Operand} {K:V→ES→Prop} {σ:ES} (a:Nat) (ha:7≤a)
    (h:HFn P f xs0 (Bj S0++[.row 1 (l.map (V.int .i64))]) [7,0] (fun r o=>∃o0,(r=R0∧o0=Bj S1)∧o=o0++[.row 1 (l.map (V.int .i64))])) (hC:C.P=P) (hb:AD P f=true)
    (he:B3 σ fop args=some (f,xs)) (hxs:FC 8 (QL a) xs0 xs) (hobj:∀(j:Nat) (o:Ob),(Bj S0)[j]?=some o→σ.heap[j]?=some (some o)) (hrow:σ.heap[a]?=some (some (.row 1 (l.map (V.int .i64))))) (h0:S0.F.length≤4) (h1:S1.F.length≤4) (hR:R0.nr)
    (hK:fH (BG (QL a) (Bj S1++[.row 1 (l.map (V.int .i64))]) 0 (BA [1,2,3,4,5,6] σ.heap)) fun h=>K R0 ⟨σ.n,Cq [1,2,3,4,5,6] σ.u,h⟩):CallN C fop args f xs K σ:=by
  rw [BB] at hK
  have hob:∀(S:Ps),S.F.length≤4→∀(j:Nat) (o:Ob),(Bj S++[Ob.row 1 (l.map (V.int .i64))])[j]?=some o→Mf 8 (QL a) o o:=by
    intro S hS j o ho
    by_cases hj:j < 7
    . rw [List.getElem?_append_left (show j < (Bj S).length from hj)] at ho
      exact Of hS (by decide) (FG a) j o ho
    . rw [List.getElem?_append_right (show (Bj S).length≤j by show 7≤j;omega)] at ho
      have:j - (Bj S).length=j - 7:=rfl
      rw [this] at ho
      match hk:j - 7 with
      | 0=>
        rw [hk] at ho
        cases ho
        exact Hp (AE l)
      | n+1=>rw [hk] at ho;simp at ho
  have hcs:∀j,j < 8→j < 7∨j=7:=fun j hj=>by omega
  refine FS h hC hb he (QL a) (fun i j hi hj e=>?_) hxs (fun j o ho=>⟨o,?_,hob S0 h0 j o ho⟩) [1,2,3,4,5,6] (fun j hj hm=>?_) (fun j hj=>?_) ?_
  . rcases hcs i hi with h|rfl<;>rcases hcs j hj with h'|rfl
    . rwa [FG a i h,FG a j h'] at e
    . rw [FG a i h] at e;have:i=a:=e;omega
    . rw [FG a j h'] at e;have:a=j:=e;omega
    . rfl
  . have hj:j < 8:=(List.getElem?_eq_some_iff.1 ho).1
    rcases hcs j hj with h|rfl
    . rw [List.getElem?_append_left (show j < (Bj S0).length from h)] at ho
      rw [FG a j h]
      exact hobj j o ho
    . cases ho
      exact hrow
  . rcases hcs j hj with h|rfl
    . rw [FG a j h] at hm
      simp only [List.mem_cons,List.not_mem_nil,or_false] at hm ⊢
      omega
    . simp
  . simp only [List.mem_cons,List.not_mem_nil,or_false] at hj
    exact ⟨j,by show j < 8;omega,FG a j (by omega)⟩
  . rintro r0 objs' ⟨o0,⟨rfl,rfl⟩,rfl⟩ _
    refine ⟨r0,Bj S1++[.row 1 (l.map (V.int .i64))],En _ hR,rfl,fun j o o' ho ho'=>?_,hK⟩
    rw [ho] at ho'
    cases ho'
    exact hob S1 h1 j o ho
theorem U2 {C:Ctx} {P:Program} {f:FuncId} {xs0 xs:List V} {S0 S1:Ps} {R0:V} {l m:List Int} {fop:Operand} {args:List Operand} {K:V→ES→Prop} {σ:ES} (a b:Nat) (ha:7≤a) (hb7:7≤b) (hab:a≠b)
    (h:HFn P f xs0 ((Bj S0++[.row 1 (l.map (V.int .i64))])++[.row 1 (m.map (V.int .i64))]) [8,7,0] (fun r o=>∃o1,(∃o0,(r=R0∧o0=Bj S1)∧o1=o0++[.row 1 (l.map (V.int .i64))])∧o=o1++[.row 1 (m.map (V.int .i64))])) (hC:C.P=P) (hb:AD P f=true)
    (he:B3 σ fop args=some (f,xs)) (hxs:FC 9 (U0 a b) xs0 xs) (hobj:∀(j:Nat) (o:Ob),(Bj S0)[j]?=some o→σ.heap[j]?=some (some o)) (hrow:σ.heap[a]?=some (some (.row 1 (l.map (V.int .i64))))) (hrow2:σ.heap[b]?=some (some (.row 1 (m.map (V.int .i64))))) (h0:S0.F.length≤4) (h1:S1.F.length≤4) (hR:R0.nr)
    (hK:fH (BG (U0 a b) ((Bj S1++[.row 1 (l.map (V.int .i64))])++[.row 1 (m.map (V.int .i64))]) 0 (BA [1,2,3,4,5,6] σ.heap)) fun h=>K R0 ⟨σ.n,Cq [1,2,3,4,5,6] σ.u,h⟩):CallN C fop args f xs K σ:=by
  rw [BB] at hK
  have hcs:∀j,j < 9→j < 7∨j=7∨j=8:=fun j hj=>by omega
  have hob:∀(S:Ps),S.F.length≤4→∀(j:Nat) (o:Ob),((Bj S++[Ob.row 1 (l.map (V.int .i64))])++[Ob.row 1 (m.map (V.int .i64))])[j]?=some o→Mf 9 (U0 a b) o o:=by
    intro S hS j o ho
    have hj:j < 9:=(List.getElem?_eq_some_iff.1 ho).1
    rcases hcs j hj with h|rfl|rfl
    . rw [List.append_assoc,List.getElem?_append_left (show j < (Bj S).length from h)] at ho
      exact Of hS (by decide) (Dt a b) j o ho
    . cases ho;exact Hp (AE l)
    . cases ho;exact Hp (AE m)
  refine FS h hC hb he (U0 a b) (fun i j hi hj e=>?_) hxs (fun j o ho=>⟨o,?_,hob S0 h0 j o ho⟩) [1,2,3,4,5,6] (fun j hj hm=>?_) (fun j hj=>?_) ?_
  . rcases hcs i hi with h|rfl|rfl<;>rcases hcs j hj with h'|rfl|rfl
    . rwa [Dt a b i h,Dt a b j h'] at e
    . rw [Dt a b i h] at e;have:i=a:=e;omega
    . rw [Dt a b i h] at e;have:i=b:=e;omega
    . rw [Dt a b j h'] at e;have:a=j:=e;omega
    . rfl
    . exact absurd (show a=b from e) hab
    . rw [Dt a b j h'] at e;have:b=j:=e;omega
    . exact absurd (show b=a from e).symm hab
    . rfl
  . have hj:j < 9:=(List.getElem?_eq_some_iff.1 ho).1
    rcases hcs j hj with h|rfl|rfl
    . rw [List.append_assoc,List.getElem?_append_left (show j < (Bj S0).length from h)] at ho
      rw [Dt a b j h]
      exact hobj j o ho
    . cases ho;exact hrow
    . cases ho;exact hrow2
  . rcases hcs j hj with h|rfl|rfl
    . rw [Dt a b j h] at hm
      simp only [List.mem_cons,List.not_mem_nil,or_false] at hm ⊢
      omega
    . simp
    . simp
  . simp only [List.mem_cons,List.not_mem_nil,or_false] at hj
    exact ⟨j,by show j < 9;omega,Dt a b j (by omega)⟩
  . rintro r0 objs' ⟨o1,⟨o0,⟨rfl,rfl⟩,rfl⟩,rfl⟩ _
    refine ⟨r0,(Bj S1++[.row 1 (l.map (V.int .i64))])++[.row 1 (m.map (V.int .i64))],En _ hR,rfl,fun j o o' ho ho'=>?_,hK⟩
    rw [ho] at ho'
    cases ho'
    exact hob S1 h1 j o ho
end Go.Proofs.YtkaiffheakalmaaGreatDoor
