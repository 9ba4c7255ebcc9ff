/- Copied, stripped. No conditions. -/
import Derived.Test.YtkaiffheakalmaaGreatDoorU9Awv
set_option linter.unusedSimpArgs false
set_option linter.unusedVariables false
set_option maxRecDepth 100000
namespace Go.Proofs.YtkaiffheakalmaaGreatDoor
open Go.RowKit
mutual
def Bu (k:Nat) (ρ:Nat→Nat):V→V→Prop
  | .sl i o n,y=>i < k∧y= .sl (ρ i) o n
  | .ptr i a b,y=>i < k∧y= .ptr (ρ i) a b
  | .it i,y=>i < k∧y= .it (ρ i)
  | .agg l,y=>∃l',y= .agg l'∧FC k ρ l l'
  | .fn f l,y=>∃l',y= .fn f l'∧FC k ρ l l'
  | .tup l,y=>∃l',y= .tup l'∧FC k ρ l l'
  | x,y=>y=x
def FC (k:Nat) (ρ:Nat→Nat):List V→List V→Prop
  | [],l'=>l'=[]
  | x::l,l'=>∃y r,l'=y::r∧Bu k ρ x y∧FC k ρ l r
end
theorem By {k:Nat} {ρ:Nat→Nat}:∀{l l':List V},FC k ρ l l'→l.length=l'.length∧∀(i:Nat) (c c':V),l[i]?=some c→l'[i]?=some c'→Bu k ρ c c'
  | [],l',h=>by
    simp only [FC] at h
    subst h
    exact ⟨rfl,fun i c c' h=>by simp at h⟩
  | x::l,l',h=>by
    simp only [FC] at h
    obtain ⟨y,r,rfl,h1,h2⟩:=h
    obtain ⟨h3,h4⟩:=By h2
    refine ⟨by simp [h3],fun i c c' hc hc'=>?_⟩
    cases i with
    | zero=>simp at hc hc';subst hc;subst hc';exact h1
    | succ i=>exact h4 i c c' (by simpa using hc) (by simpa using hc')
theorem Wp {k:Nat} {ρ:Nat→Nat}:∀{l l':List V},l.length=l'.length→(∀(i:Nat) (c c':V),l[i]?=some c→l'[i]?=some c'→Bu k ρ c c')→FC k ρ l l'
  | [],[],_,_=>by simp [FC]
  | x::l,y::r,h,hh=>by
    simp only [FC]
    exact ⟨y,r,rfl,hh 0 x y rfl rfl,Wp (by simpa using h) fun i c c' hc hc'=>hh (i+1) c c' (by simpa using hc) (by simpa using hc')⟩
  | [],_::_,h,_=>by simp at h
  | _::_,[],h,_=>by simp at h
theorem En {k:Nat} {ρ:Nat→Nat} (x:V):x.nr→Bu k ρ x x:=by
  refine V.rec (motive_1:=fun x=>x.nr→Bu k ρ x x) (motive_2:=fun l=>BN l→FC k ρ l l) ?_ ?_ ?_ ?_ ?_ ?_ ?_ ?_ ?_ ?_ ?_ ?_ ?_ ?_ ?_ ?_ ?_ ?_ ?_ ?_ ?_ x
  all_goals first
    | (intro h;simp only [Bu];done)
    | (intro a h;simp only [Bu];done)
    | (intro a b h;simp only [Bu];done)
    | (intro a b c h;simp only [Bu];done)
    | (intro a ih h;simp only [Bu];done)
    | (intro l ih h;simp only [Bu];exact ⟨l,rfl,ih h⟩)
    | (intro f l ih h;simp only [Bu];exact ⟨l,rfl,ih h⟩)
    | (intro a b c h;exact (h:False).elim)
    | (intro a h;exact (h:False).elim)
    | (intro h;simp only [FC];done)
    | (intro x l h1 h2 h;simp only [FC];exact ⟨x,l,rfl,h1 h.1,h2 h.2⟩)
theorem IS {k:Nat} {ρ:Nat→Nat} {x y:V} (h:Bu k ρ x y):FC k ρ x.cells y.cells:=by
  have one:∀{x y:V},x.cells=[x]→y.cells=[y]→Bu k ρ x y→FC k ρ x.cells y.cells:=fun h1 h2 h=>by
    rw [h1,h2];simp only [FC];exact ⟨_,_,rfl,h,rfl⟩
  cases x with
  | agg l=>simp only [Bu] at h;obtain ⟨l',rfl,h⟩:=h;exact h
  | sl i o n=>have h0:=h;simp only [Bu] at h;obtain ⟨h1,rfl⟩:=h;exact one rfl rfl h0
  | ptr i a b=>have h0:=h;simp only [Bu] at h;obtain ⟨h1,rfl⟩:=h;exact one rfl rfl h0
  | it i=>have h0:=h;simp only [Bu] at h;obtain ⟨h1,rfl⟩:=h;exact one rfl rfl h0
  | fn f l=>have h0:=h;simp only [Bu] at h;obtain ⟨l',rfl,h⟩:=h;exact one rfl rfl h0
  | tup l=>have h0:=h;simp only [Bu] at h;obtain ⟨l',rfl,h⟩:=h;exact one rfl rfl h0
  | _=>have h0:=h;simp only [Bu] at h;subst h;exact one rfl rfl h0
theorem IT {k:Nat} {ρ:Nat→Nat} {w:World} {I:Nat→Prop} {bl blc:Nat→Option BI} (hb:∀j,j < k→blc j=bl (ρ j)) (x:V):∀(v:Value) (y:V),Bu k ρ x y→Rep w I bl v y→Rep w I blc v x:=by
  refine V.rec (motive_1:=fun x=>∀(v:Value) (y:V),Bu k ρ x y→Rep w I bl v y→Rep w I blc v x) (motive_2:=fun l=>∀(i:Nat) (x:V),l[i]?=some x→∀(v:Value) (y:V),Bu k ρ x y→Rep w I bl v y→Rep w I blc v x) ?_ ?_ ?_ ?_ ?_ ?_ ?_ ?_ ?_ ?_ ?_ ?_ ?_ ?_ ?_ ?_ ?_ ?_ ?_ ?_ ?_ x
  case refine_1=>intro v y h hr;exact .pure _ _ (.any _)
  case refine_2=>intro b v y h hr;simp only [Bu] at h;subst h;cases hr with|pure _ _ h=>exact .pure _ _ (h.later (fun _ _=>rfl) (fun _ h=>h))
  case refine_3=>intro a b v y h hr;simp only [Bu] at h;subst h;cases hr with|pure _ _ h=>exact .pure _ _ h
  case refine_4=>intro b v y h hr;simp only [Bu] at h;subst h;cases hr with|pure _ _ h=>exact .pure _ _ h
  case refine_5=>intro v y h hr;simp only [Bu] at h;subst h;cases hr with|pure _ _ h=>exact .pure _ _ h
  case refine_11=>intro v y h hr;simp only [Bu] at h;subst h;cases hr with|pure _ _ h=>exact .pure _ _ h
  case refine_15=>intro v y h hr;simp only [Bu] at h;subst h;cases hr with|pure _ _ h=>cases h;exact .pure _ _ .nili
  case refine_16=>intro t k n v y h hr;simp only [Bu] at h;subst h;cases hr with|pure _ _ h=>cases h;exact .pure _ _ (.ifi t k n)
  case refine_17=>intro v y h hr;simp only [Bu] at h;subst h;cases hr with|pure _ _ h=>cases h;exact .pure _ _ (.ifx _ _)
  case refine_18=>intro g v y h hr;simp only [Bu] at h;subst h;cases hr with|pure _ _ h=>cases h;exact .pure _ _ (.gp _)
  case refine_19=>intro g n v y h hr;simp only [Bu] at h;subst h;cases hr with|pure _ _ h=>cases h;exact .pure _ _ (.gsl _ _ ‹_›)
  case refine_6=>intro l _ v y h hr;simp only [Bu] at h;subst h;cases hr with|pure _ _ h=>exact .pure _ _ h
  case refine_8=>intro l _ v y h hr;simp only [Bu] at h;subst h;cases hr with|pure _ _ h=>exact .pure _ _ h
  case refine_12=>
    intro i o n v y h hr
    simp only [Bu] at h
    obtain ⟨hi,rfl⟩:=h
    have hbi:=hb i hi
    rcases hr.inv_sl with ⟨base,z,h1,rfl,rfl,rfl⟩|⟨a,bi,h1,rfl,rfl⟩|⟨cap,b,base,z,m,e,h1,h2,h3,h4,h5,rfl⟩
    . exact .nsl _ base z (by rw [hbi];exact h1)
    . exact .esl _ _ a bi (by rw [hbi];exact h1)
    . exact .sl _ _ _ cap b base z m e (by rw [hbi];exact h1) h2 h3 h4 h5
  case refine_13=>
    intro i a b v y h hr
    simp only [Bu] at h
    obtain ⟨hi,rfl⟩:=h
    obtain ⟨b',base,z,m,e,h1,h2,rfl⟩:=hr.inv_ptr
    exact .ptr _ _ _ b' base z m e (by rw [hb i hi];exact h1) h2
  case refine_14=>
    intro i v y h hr
    simp only [Bu] at h
    obtain ⟨hi,rfl⟩:=h
    obtain ⟨b',base,z,h1,rfl⟩:=hr.inv_it
    exact .it _ b' base z (by rw [hb i hi];exact h1)
  case refine_7=>
    intro l ih v y h hr
    simp only [Bu] at h
    obtain ⟨l',rfl,h⟩:=h
    obtain ⟨vs,rfl,h1,h2,h3⟩:=hr.inv_agg
    obtain ⟨g1,g2⟩:=By h
    refine .agg vs l (by rw [h1,g1]) h2 fun i v c hv hc=>?_
    obtain ⟨c',hc'⟩:∃c',l'[i]?=some c':=⟨_,List.getElem?_eq_getElem (by rw [←g1];exact (List.getElem?_eq_some_iff.1 hc).1)⟩
    exact ih i c hc v c' (g2 i c c' hc hc') (h3 i v c' hv hc')
  case refine_9=>
    intro f l ih v y h hr
    simp only [Bu] at h
    obtain ⟨l',rfl,h⟩:=h
    obtain ⟨vs,rfl,h1,h3⟩:=hr.inv_fn
    obtain ⟨g1,g2⟩:=By h
    refine .fn f vs l (by rw [h1,g1]) fun i v c hv hc=>?_
    obtain ⟨c',hc'⟩:∃c',l'[i]?=some c':=⟨_,List.getElem?_eq_getElem (by rw [←g1];exact (List.getElem?_eq_some_iff.1 hc).1)⟩
    exact ih i c hc v c' (g2 i c c' hc hc') (h3 i v c' hv hc')
  case refine_10=>
    intro l ih v y h hr
    simp only [Bu] at h
    obtain ⟨l',rfl,h⟩:=h
    obtain ⟨vs,rfl,h1,h3⟩:=hr.inv_tup
    obtain ⟨g1,g2⟩:=By h
    refine .tup vs l (by rw [h1,g1]) fun i v c hv hc=>?_
    obtain ⟨c',hc'⟩:∃c',l'[i]?=some c':=⟨_,List.getElem?_eq_getElem (by rw [←g1];exact (List.getElem?_eq_some_iff.1 hc).1)⟩
    exact ih i c hc v c' (g2 i c c' hc hc') (h3 i v c' hv hc')
  case refine_20=>intro i x h;simp at h
  case refine_21=>
    intro x l h1 h2 i y hy
    cases i with
    | zero=>simp at hy;subst hy;exact h1
    | succ i=>exact h2 i y (by simpa using hy)
theorem OI {k:Nat} {ρ:Nat→Nat} {w:World} {I I':Nat→Prop} {bl blc:Nat→Option BI} (hI:∀b,I b→I' b) (hb:∀j,j < k→bl (ρ j)=blc j) {x:V} {v:Value} (h:Rep w I blc v x):∀y,Bu k ρ x y→Rep w I' bl v y:=by
  induction h with
  | pure v x h=>
    intro y hy
    have key:∀{v:Value} {x:V},Pr w I v x→∀y,Bu k ρ x y→Pr w I' v y:=by
      intro v x h
      induction h with
      | any v=>intro y hy;simp only [Bu] at hy;subst hy;exact .any v
      | bool b=>intro y hy;simp only [Bu] at hy;subst hy;exact .bool b
      | int k n=>intro y hy;simp only [Bu] at hy;subst hy;exact .int k n
      | str s h=>intro y hy;simp only [Bu] at hy;subst hy;exact .str s h
      | nils=>intro y hy;simp only [Bu] at hy;subst hy;exact .nils
      | lnil a cap=>intro y hy;simp only [Bu] at hy;subst hy;exact .lnil a cap
      | lst b off cap z l u h1 h2 h3 h4 h5 h6 h7 ih=>
        intro y hy
        simp only [Bu] at hy
        subst hy
        exact (Pr.lst b off cap z l u h1 h2 h3 h4 h5 h6 h7).later (fun _ _=>rfl) hI
      | agg vs l h1 h2 h3 ih=>
        intro y hy
        simp only [Bu] at hy
        obtain ⟨l',rfl,hy⟩:=hy
        obtain ⟨g1,g2⟩:=By hy
        refine .agg vs l' (by rw [h1,g1]) h2 fun i v c' hv hc'=>?_
        obtain ⟨c,hc⟩:∃c,l[i]?=some c:=⟨_,List.getElem?_eq_getElem (by rw [g1];exact (List.getElem?_eq_some_iff.1 hc').1)⟩
        exact ih i v c hv hc c' (g2 i c c' hc hc')
      | rp b off l u h1 h2 h3 h4 ih=>
        intro y hy
        simp only [Bu] at hy
        subst hy
        exact (Pr.rp b off l u h1 h2 h3 h4).later (fun _ _=>rfl) hI
      | fn f vs l h1 h2 ih=>
        intro y hy
        simp only [Bu] at hy
        obtain ⟨l',rfl,hy⟩:=hy
        obtain ⟨g1,g2⟩:=By hy
        refine .fn f vs l' (by rw [h1,g1]) fun i v c' hv hc'=>?_
        obtain ⟨c,hc⟩:∃c,l[i]?=some c:=⟨_,List.getElem?_eq_getElem (by rw [g1];exact (List.getElem?_eq_some_iff.1 hc').1)⟩
        exact ih i v c hv hc c' (g2 i c c' hc hc')
      | tup vs l h1 h2 ih=>
        intro y hy
        simp only [Bu] at hy
        obtain ⟨l',rfl,hy⟩:=hy
        obtain ⟨g1,g2⟩:=By hy
        refine .tup vs l' (by rw [h1,g1]) fun i v c' hv hc'=>?_
        obtain ⟨c,hc⟩:∃c,l[i]?=some c:=⟨_,List.getElem?_eq_getElem (by rw [g1];exact (List.getElem?_eq_some_iff.1 hc').1)⟩
        exact ih i v c hv hc c' (g2 i c c' hc hc')
      | nilp=>intro y hy;simp only [Bu] at hy;subst hy;exact .nilp
      | nili=>intro y hy;simp only [Bu] at hy;subst hy;exact .nili
      | ifi t k n=>intro y hy;simp only [Bu] at hy;subst hy;exact .ifi t k n
      | ifx t v=>intro y hy;simp only [Bu] at hy;subst hy;exact .ifx t v
      | gp g=>intro y hy;simp only [Bu] at hy;subst hy;exact .gp g
      | gsl g n h=>intro y hy;simp only [Bu] at hy;subst hy;exact .gsl g n h
    exact .pure _ _ (key h y hy)
  | nsl id base z h=>
    intro y hy;simp only [Bu] at hy;obtain ⟨h1,rfl⟩:=hy
    exact .nsl _ base z (by rw [hb _ h1];exact h)
  | sl id off len cap b base z n e h1 h2 h3 h4 h5=>
    intro y hy;simp only [Bu] at hy;obtain ⟨g1,rfl⟩:=hy
    exact .sl _ off len cap b base z n e (by rw [hb _ g1];exact h1) h2 h3 h4 h5
  | esl id off a i h=>
    intro y hy;simp only [Bu] at hy;obtain ⟨g1,rfl⟩:=hy
    exact .esl _ off a i (by rw [hb _ g1];exact h)
  | ptr id i j b base z n e h1 h2=>
    intro y hy;simp only [Bu] at hy;obtain ⟨g1,rfl⟩:=hy
    exact .ptr _ i j b base z n e (by rw [hb _ g1];exact h1) h2
  | it id b base z h1=>
    intro y hy;simp only [Bu] at hy;obtain ⟨g1,rfl⟩:=hy
    exact .it _ b base z (by rw [hb _ g1];exact h1)
  | agg vs l h1 h2 h3 ih=>
    intro y hy
    simp only [Bu] at hy
    obtain ⟨l',rfl,hy⟩:=hy
    obtain ⟨g1,g2⟩:=By hy
    refine .agg vs l' (by rw [h1,g1]) h2 fun i v c' hv hc'=>?_
    obtain ⟨c,hc⟩:∃c,l[i]?=some c:=⟨_,List.getElem?_eq_getElem (by rw [g1];exact (List.getElem?_eq_some_iff.1 hc').1)⟩
    exact ih i v c hv hc c' (g2 i c c' hc hc')
  | fn f vs l h1 h2 ih=>
    intro y hy
    simp only [Bu] at hy
    obtain ⟨l',rfl,hy⟩:=hy
    obtain ⟨g1,g2⟩:=By hy
    refine .fn f vs l' (by rw [h1,g1]) fun i v c' hv hc'=>?_
    obtain ⟨c,hc⟩:∃c,l[i]?=some c:=⟨_,List.getElem?_eq_getElem (by rw [g1];exact (List.getElem?_eq_some_iff.1 hc').1)⟩
    exact ih i v c hv hc c' (g2 i c c' hc hc')
  | tup vs l h1 h2 ih=>
    intro y hy
    simp only [Bu] at hy
    obtain ⟨l',rfl,hy⟩:=hy
    obtain ⟨g1,g2⟩:=By hy
    refine .tup vs l' (by rw [h1,g1]) fun i v c' hv hc'=>?_
    obtain ⟨c,hc⟩:∃c,l[i]?=some c:=⟨_,List.getElem?_eq_getElem (by rw [g1];exact (List.getElem?_eq_some_iff.1 hc').1)⟩
    exact ih i v c hv hc c' (g2 i c c' hc hc')
def Mf (k:Nat) (ρ:Nat→Nat) (o o':Ob):Prop:=match o with
  | .row z els=>∃els',o'= .row z els'∧FC k ρ els els'
  | .iter s p=>o'= .iter s p
  | .mp es=>o'= .mp es
  | .bld T y=>∃y',o'= .bld T y'∧Bu k ρ (yV y) (yV y')
  | .buf U s=>o'= .buf U s
  | .hid _ _=>False
theorem Wq {k:Nat} {ρ:Nat→Nat} {els els':List V} (h:FC k ρ els els'):els.length=els'.length∧(∀(i:Nat) (x y:V),els[i]?=some x→els'[i]?=some y→Bu k ρ x y):=By h
theorem DD {α β:Type} {l:List α} {l':List β} (h:l.length=l'.length) {i:Nat} {x:α} (hx:l[i]?=some x):∃y,l'[i]?=some y:=
  ⟨_,List.getElem?_eq_getElem (by rw [←h];exact (List.getElem?_eq_some_iff.1 hx).1)⟩
theorem TV {k:Nat} {ρ:Nat→Nat} {w:World} {I:Nat→Prop} {bl blc:Nat→Option BI} (hb:∀j,j < k→blc j=bl (ρ j)) {j:Nat} (hj:j < k) {o o':Ob} (hr:Mf k ρ o o') (h:ObRep w I bl (ρ j) o'):ObRep w I blc j o:=by
  cases o with
  | row z els=>
    obtain ⟨els',rfl,hr⟩:=hr
    obtain ⟨g1,g2⟩:=Wq hr
    obtain ⟨bi,h1,h2,h3,h4⟩:=h
    refine ⟨bi,by rw [hb j hj];exact h1,h2,fun i x hx=>?_,?_⟩
    . obtain ⟨y,hy⟩:=DD g1 hx
      rw [(By (IS (g2 i x y hx hy))).1]
      exact h3 i y hy
    . cases hbl:bi.blk with
      | none=>
        simp only [hbl] at h4 ⊢
        subst h4
        exact List.eq_nil_of_length_eq_zero g1
      | some b=>
        simp only [hbl] at h4 ⊢
        obtain ⟨cur,e,hg,hsz,hc⟩:=h4
        refine ⟨cur,e,hg,by rw [g1];exact hsz,fun i x q c hx hxc=>?_⟩
        obtain ⟨y,hy⟩:=DD g1 hx
        obtain ⟨g3,g4⟩:=By (IS (g2 i x y hx hy))
        obtain ⟨c',hc'⟩:=DD g3 hxc
        obtain ⟨u,hu,h1',hr'⟩:=hc i y q c' hy hc'
        exact ⟨u,hu,h1',IT hb c u c' (g4 q c c' hxc hc') hr'⟩
  | iter s p=>
    simp only [Mf] at hr
    subst hr
    obtain ⟨b,base,z,t,h1,h2,h3,h4⟩:=h
    exact ⟨b,base,z,t,by rw [hb j hj];exact h1,h2,h3,h4⟩
  | mp es=>
    simp only [Mf] at hr
    subst hr
    obtain ⟨b,base,z,t,h1,h2,h3,h4⟩:=h
    exact ⟨b,base,z,t,by rw [hb j hj];exact h1,h2,h3,h4⟩
  | bld T y=>
    obtain ⟨y',rfl,hr⟩:=hr
    obtain ⟨b,p,v,h1,h2,h3,h4,h5⟩:=h
    exact ⟨b,p,v,by rw [hb j hj];exact h1,h2,h3,h4,IT hb (yV y) v (yV y') hr h5⟩
  | buf U s=>
    simp only [Mf] at hr
    subst hr
    obtain ⟨blk,h1,h2⟩:=h
    exact ⟨blk,by rw [hb j hj];exact h1,h2⟩
  | hid vs l=>exact hr.elim
theorem cX {k:Nat} {ρ:Nat→Nat} {w:World} {I I':Nat→Prop} {bl blc:Nat→Option BI} (hI:∀b,I b→I' b) (hb:∀j,j < k→bl (ρ j)=blc j) {j:Nat} (hj:j < k) {o o':Ob} (hr:Mf k ρ o o') (h:ObRep w I blc j o):ObRep w I' bl (ρ j) o':=by
  cases o with
  | row z els=>
    obtain ⟨els',rfl,hr⟩:=hr
    obtain ⟨g1,g2⟩:=Wq hr
    obtain ⟨bi,h1,h2,h3,h4⟩:=h
    refine ⟨bi,by rw [hb j hj];exact h1,h2,fun i y hy=>?_,?_⟩
    . obtain ⟨x,hx⟩:=DD g1.symm hy
      rw [←(By (IS (g2 i x y hx hy))).1]
      exact h3 i x hx
    . cases hbl:bi.blk with
      | none=>
        simp only [hbl] at h4 ⊢
        subst h4
        exact List.eq_nil_of_length_eq_zero g1.symm
      | some b=>
        simp only [hbl] at h4 ⊢
        obtain ⟨cur,e,hg,hsz,hc⟩:=h4
        refine ⟨cur,e,hg,by rw [←g1];exact hsz,fun i y q c' hy hyc=>?_⟩
        obtain ⟨x,hx⟩:=DD g1.symm hy
        obtain ⟨g3,g4⟩:=By (IS (g2 i x y hx hy))
        obtain ⟨c,hc0⟩:=DD g3.symm hyc
        obtain ⟨u,hu,h1',hr'⟩:=hc i x q c hx hc0
        exact ⟨u,hu,h1',OI hI hb hr' c' (g4 q c c' hc0 hyc)⟩
  | iter s p=>
    simp only [Mf] at hr
    subst hr
    obtain ⟨b,base,z,t,h1,h2,h3,h4⟩:=h
    exact ⟨b,base,z,t,by rw [hb j hj];exact h1,h2,h3,h4⟩
  | mp es=>
    simp only [Mf] at hr
    subst hr
    obtain ⟨b,base,z,t,h1,h2,h3,h4⟩:=h
    exact ⟨b,base,z,t,by rw [hb j hj];exact h1,h2,h3,h4⟩
  | bld T y=>
    obtain ⟨y',rfl,hr⟩:=hr
    obtain ⟨b,p,v,h1,h2,h3,h4,h5⟩:=h
    exact ⟨b,p,v,by rw [hb j hj];exact h1,h2,h3,h4,OI hI hb h5 (yV y') hr⟩
  | buf U s=>
    simp only [Mf] at hr
    subst hr
    obtain ⟨blk,h1,h2⟩:=h
    exact ⟨blk,by rw [hb j hj];exact h1,h2⟩
  | hid vs l=>exact hr.elim
def NR:List Nat→V→V
  | [],x=>x
  | a::M,x=>NR M (x.kill a)
def JF:List Nat→List V→List V
  | [],l=>l
  | a::M,l=>JF M (AK a l)
def BA:List Nat→List (Option Ob)→List (Option Ob)
  | [],h=>h
  | a::M,h=>BA M (Ba a h)
theorem JG {w:World} {I:Nat→Prop} {bl':Nat→Option BI} {a:Array Value}:∀(M:List Nat) (bl:Nat→Option BI) (env:List V),(∀id,id∉M→bl' id=bl id)→EnvRep env a w I bl→EnvRep (JF M env) a w I bl'
  | [],bl,x,hb,h=>by
    have:bl'=bl:=funext fun id=>hb id (by simp)
    rw [this];exact h
  | b::M,bl,x,hb,h=>by
    refine JG M (fun id=>if id=b then bl' b else bl id) (AK b x) (fun id hid=>?_) (h.kill b fun k hk=>if_neg hk)
    by_cases e:id=b
    . subst e;simp
    . simp only [if_neg e];exact hb id (by simp [e,hid])
theorem Cz:∀(M:List Nat) (h:List (Option Ob)),(BA M h).length=h.length
  | [],_=>rfl
  | a::M,h=>by simp [BA,Cz M,EL]
theorem Hl {w:World} {I:Nat→Prop} {bl':Nat→Option BI} {k:Nat}:∀(M:List Nat) (bl:Nat→Option BI) (h:List (Option Ob)) (o:Ob),(∀id,id∉M→bl' id=bl id)→k∉M→(∀o,h[k]?=some (some o)→ObRep w I bl k o)→(BA M h)[k]?=some (some o)→ObRep w I bl' k o
  | [],bl,h,o,hb,hk,ho,e=>by
    have:bl'=bl:=funext fun id=>hb id (by simp)
    rw [this];exact ho o e
  | a::M,bl,h,o,hb,hk,ho,e=>by
    have hka:k≠a:=fun e=>hk (by simp [e])
    refine Hl M (fun id=>if id=a then bl' a else bl id) (Ba a h) o (fun id hid=>?_) (fun h=>hk (by simp [h])) (fun o2 ho2=>?_) e
    . by_cases e:id=a
      . subst e;simp
      . simp only [if_neg e];exact hb id (by simp [e,hid])
    . obtain ⟨o',ho',rfl⟩:=FW a h k o2 ho2
      exact (ho o' ho').kill a hka fun k hk=>if_neg hk
theorem Gp {k:Nat}:∀(M:List Nat) (h:List (Option Ob)) (o:Ob),h[k]?=some (some o)→∃o',(BA M h)[k]?=some (some o')
  | [],h,o,e=>⟨o,e⟩
  | a::M,h,o,e=>Gp M (Ba a h) _ (Ec a h k o e)
end Go.Proofs.YtkaiffheakalmaaGreatDoor
