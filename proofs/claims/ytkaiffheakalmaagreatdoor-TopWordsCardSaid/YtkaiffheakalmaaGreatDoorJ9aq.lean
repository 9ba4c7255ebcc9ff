/- Joined. No conditions. -/
import Derived.Test.YtkaiffheakalmaaGreatDoorJ9ap
set_option linter.unusedSimpArgs false
set_option linter.unusedVariables false
set_option maxRecDepth 100000
namespace Go.Proofs.YtkaiffheakalmaaGreatDoor
open Go.RowKit
mutual
def B7 (k:Nat) (ρ:Nat→Nat):V→V→Prop
 | .sl i o n,y=>i < k∧y= .sl (ρ i) o n
 | .ptr i a b,y=>i < k∧y= .ptr (ρ i) a b
 | .it i,y=>i < k∧y= .it (ρ i)
 | .agg l,y=>∃l',y= .agg l'∧Fj k ρ l l'
 | .fn f l,y=>∃l',y= .fn f l'∧Fj k ρ l l'
 | .tup l,y=>∃l',y= .tup l'∧Fj k ρ l l'
 | x,y=>y=x
def Fj (k:Nat) (ρ:Nat→Nat):List V→List V→Prop
 | [],l'=>l'=[]
 | x::l,l'=>∃y r,l'=y::r∧B7 k ρ x y∧Fj k ρ l r
end
theorem CC {k:Nat} {ρ:Nat→Nat}:∀{l l':List V},Fj k ρ l l'→l.length=l'.length∧∀(i:Nat) (c c':V),l[i]?=some c→l'[i]?=some c'→B7 k ρ c c'
 | [],l',h=>by
   simp only [Fj] at h
   subst h
   exact ⟨rfl,fun i c c' h=>by simp at h⟩
 | x::l,l',h=>by
   simp only [Fj] at h
   obtain ⟨y,r,rfl,h1,h2⟩:=h
   obtain ⟨h3,h4⟩:=CC h2
   refine ⟨by simp [h3],fun i c c' hc hc'=>?_⟩
   cases i with
   | zero=>simp at hc hc';subst hc;subst hc';exact h1
   | succ i=>exact h4 i c c' (by simpa using hc) (by simpa using hc')
theorem Y1 {k:Nat} {ρ:Nat→Nat}:∀{l l':List V},l.length=l'.length→(∀(i:Nat) (c c':V),l[i]?=some c→l'[i]?=some c'→B7 k ρ c c')→Fj k ρ l l'
 | [],[],_,_=>by simp [Fj]
 | x::l,y::r,h,hh=>by
   simp only [Fj]
   exact ⟨y,r,rfl,hh 0 x y rfl rfl,Y1 (by simpa using h) fun i c c' hc hc'=>hh (i+1) c c' (by simpa using hc) (by simpa using hc')⟩
 | [],_::_,h,_=>by simp at h
 | _::_,[],h,_=>by simp at h
theorem FK {k:Nat} {ρ:Nat→Nat} (x:V):x.nr→B7 k ρ x x:=by
 refine V.rec (motive_1:=fun x=>x.nr→B7 k ρ x x) (motive_2:=fun l=>BT l→Fj k ρ l l) ?_ ?_ ?_ ?_ ?_ ?_ ?_ ?_ ?_ ?_ ?_ ?_ ?_ ?_ ?_ ?_ ?_ ?_ ?_ ?_ ?_ x
 all_goals first
  | (intro h;simp only [B7];done)
  | (intro a h;simp only [B7];done)
  | (intro a b h;simp only [B7];done)
  | (intro a b c h;simp only [B7];done)
  | (intro a ih h;simp only [B7];done)
  | (intro l ih h;simp only [B7];exact ⟨l,rfl,ih h⟩)
  | (intro f l ih h;simp only [B7];exact ⟨l,rfl,ih h⟩)
  | (intro a b c h;exact (h:False).elim)
  | (intro a h;exact (h:False).elim)
  | (intro h;simp only [Fj];done)
  | (intro x l h1 h2 h;simp only [Fj];exact ⟨x,l,rfl,h1 h.1,h2 h.2⟩)
theorem JN {k:Nat} {ρ:Nat→Nat} {x y:V} (h:B7 k ρ x y):Fj k ρ x.cells y.cells:=by
 have one:∀{x y:V},x.cells=[x]→y.cells=[y]→B7 k ρ x y→Fj k ρ x.cells y.cells:=fun h1 h2 h=>by
  rw [h1,h2];simp only [Fj];exact ⟨_,_,rfl,h,rfl⟩
 cases x with
 | agg l=>simp only [B7] at h;obtain ⟨l',rfl,h⟩:=h;exact h
 | sl i o n=>have h0:=h;simp only [B7] at h;obtain ⟨h1,rfl⟩:=h;exact one rfl rfl h0
 | ptr i a b=>have h0:=h;simp only [B7] at h;obtain ⟨h1,rfl⟩:=h;exact one rfl rfl h0
 | it i=>have h0:=h;simp only [B7] at h;obtain ⟨h1,rfl⟩:=h;exact one rfl rfl h0
 | fn f l=>have h0:=h;simp only [B7] at h;obtain ⟨l',rfl,h⟩:=h;exact one rfl rfl h0
 | tup l=>have h0:=h;simp only [B7] at h;obtain ⟨l',rfl,h⟩:=h;exact one rfl rfl h0
 | _=>have h0:=h;simp only [B7] at h;subst h;exact one rfl rfl h0
theorem JO {k:Nat} {ρ:Nat→Nat} {w:World} {I:Nat→Prop} {bl blc:Nat→Option BI} (hb:∀j,j < k→blc j=bl (ρ j)) (x:V):∀(v:Value) (y:V),B7 k ρ x y→Rep w I bl v y→Rep w I blc v x:=by
 refine V.rec (motive_1:=fun x=>∀(v:Value) (y:V),B7 k ρ x y→Rep w I bl v y→Rep w I blc v x) (motive_2:=fun l=>∀(i:Nat) (x:V),l[i]?=some x→∀(v:Value) (y:V),B7 k ρ x y→Rep w I bl v y→Rep w I blc v x) ?_ ?_ ?_ ?_ ?_ ?_ ?_ ?_ ?_ ?_ ?_ ?_ ?_ ?_ ?_ ?_ ?_ ?_ ?_ ?_ ?_ x
 case refine_1=>intro v y h hr;exact .pure _ _ (.any _)
 case refine_2=>intro b v y h hr;simp only [B7] at h;subst h;cases hr with|pure _ _ h=>exact .pure _ _ (h.later (fun _ _=>rfl) (fun _ h=>h))
 case refine_3=>intro a b v y h hr;simp only [B7] at h;subst h;cases hr with|pure _ _ h=>exact .pure _ _ h
 case refine_4=>intro b v y h hr;simp only [B7] at h;subst h;cases hr with|pure _ _ h=>exact .pure _ _ h
 case refine_5=>intro v y h hr;simp only [B7] at h;subst h;cases hr with|pure _ _ h=>exact .pure _ _ h
 case refine_11=>intro v y h hr;simp only [B7] at h;subst h;cases hr with|pure _ _ h=>exact .pure _ _ h
 case refine_15=>intro v y h hr;simp only [B7] at h;subst h;cases hr with|pure _ _ h=>cases h;exact .pure _ _ .nili
 case refine_16=>intro t k n v y h hr;simp only [B7] at h;subst h;cases hr with|pure _ _ h=>cases h;exact .pure _ _ (.ifi t k n)
 case refine_17=>intro v y h hr;simp only [B7] at h;subst h;cases hr with|pure _ _ h=>cases h;exact .pure _ _ (.ifx _ _)
 case refine_18=>intro g v y h hr;simp only [B7] at h;subst h;cases hr with|pure _ _ h=>cases h;exact .pure _ _ (.gp _)
 case refine_19=>intro g n v y h hr;simp only [B7] at h;subst h;cases hr with|pure _ _ h=>cases h;exact .pure _ _ (.gsl _ _ ‹_›)
 case refine_6=>intro l _ v y h hr;simp only [B7] at h;subst h;cases hr with|pure _ _ h=>exact .pure _ _ h
 case refine_8=>intro l _ v y h hr;simp only [B7] at h;subst h;cases hr with|pure _ _ h=>exact .pure _ _ h
 case refine_12=>
  intro i o n v y h hr
  simp only [B7] at h
  obtain ⟨hi,rfl⟩:=h
  have hbi:=hb i hi
  rcases hr.inv_sl with ⟨base,z,h1,rfl,rfl,rfl⟩|⟨a,bi,h1,rfl,rfl⟩|⟨cap,b,base,z,m,e,h1,h2,h3,h4,h5,rfl⟩
  ·exact .nsl _ base z (by rw [hbi];exact h1)
  ·exact .esl _ _ a bi (by rw [hbi];exact h1)
  ·exact .sl _ _ _ cap b base z m e (by rw [hbi];exact h1) h2 h3 h4 h5
 case refine_13=>
  intro i a b v y h hr
  simp only [B7] at h
  obtain ⟨hi,rfl⟩:=h
  obtain ⟨b',base,z,m,e,h1,h2,rfl⟩:=hr.inv_ptr
  exact .ptr _ _ _ b' base z m e (by rw [hb i hi];exact h1) h2
 case refine_14=>
  intro i v y h hr
  simp only [B7] at h
  obtain ⟨hi,rfl⟩:=h
  obtain ⟨b',base,z,h1,rfl⟩:=hr.inv_it
  exact .it _ b' base z (by rw [hb i hi];exact h1)
 case refine_7=>
  intro l ih v y h hr
  simp only [B7] at h
  obtain ⟨l',rfl,h⟩:=h
  obtain ⟨vs,rfl,h1,h2,h3⟩:=hr.inv_agg
  obtain ⟨g1,g2⟩:=CC h
  refine .agg vs l (by rw [h1,g1]) h2 fun i v c hv hc=>?_
  obtain ⟨c',hc'⟩:∃c',l'[i]?=some c':=⟨_,List.getElem?_eq_getElem (by rw [←g1];exact (List.getElem?_eq_some_iff.1 hc).1)⟩
  exact ih i c hc v c' (g2 i c c' hc hc') (h3 i v c' hv hc')
 case refine_9=>
  intro f l ih v y h hr
  simp only [B7] at h
  obtain ⟨l',rfl,h⟩:=h
  obtain ⟨vs,rfl,h1,h3⟩:=hr.inv_fn
  obtain ⟨g1,g2⟩:=CC h
  refine .fn f vs l (by rw [h1,g1]) fun i v c hv hc=>?_
  obtain ⟨c',hc'⟩:∃c',l'[i]?=some c':=⟨_,List.getElem?_eq_getElem (by rw [←g1];exact (List.getElem?_eq_some_iff.1 hc).1)⟩
  exact ih i c hc v c' (g2 i c c' hc hc') (h3 i v c' hv hc')
 case refine_10=>
  intro l ih v y h hr
  simp only [B7] at h
  obtain ⟨l',rfl,h⟩:=h
  obtain ⟨vs,rfl,h1,h3⟩:=hr.inv_tup
  obtain ⟨g1,g2⟩:=CC h
  refine .tup vs l (by rw [h1,g1]) fun i v c hv hc=>?_
  obtain ⟨c',hc'⟩:∃c',l'[i]?=some c':=⟨_,List.getElem?_eq_getElem (by rw [←g1];exact (List.getElem?_eq_some_iff.1 hc).1)⟩
  exact ih i c hc v c' (g2 i c c' hc hc') (h3 i v c' hv hc')
 case refine_20=>intro i x h;simp at h
 case refine_21=>
  intro x l h1 h2 i y hy
  cases i with
  | zero=>simp at hy;subst hy;exact h1
  | succ i=>exact h2 i y (by simpa using hy)
theorem Pm {k:Nat} {ρ:Nat→Nat} {w:World} {I I':Nat→Prop} {bl blc:Nat→Option BI} (hI:∀b,I b→I' b) (hb:∀j,j < k→bl (ρ j)=blc j) {x:V} {v:Value} (h:Rep w I blc v x):∀y,B7 k ρ x y→Rep w I' bl v y:=by
 induction h with
 | pure v x h=>
   intro y hy
   have key:∀{v:Value} {x:V},Pr w I v x→∀y,B7 k ρ x y→Pr w I' v y:=by
    intro v x h
    induction h with
    | any v=>intro y hy;simp only [B7] at hy;subst hy;exact .any v
    | bool b=>intro y hy;simp only [B7] at hy;subst hy;exact .bool b
    | int k n=>intro y hy;simp only [B7] at hy;subst hy;exact .int k n
    | str s h=>intro y hy;simp only [B7] at hy;subst hy;exact .str s h
    | nils=>intro y hy;simp only [B7] at hy;subst hy;exact .nils
    | lnil a cap=>intro y hy;simp only [B7] at hy;subst hy;exact .lnil a cap
    | lst b off cap z l u h1 h2 h3 h4 h5 h6 h7 ih=>
      intro y hy
      simp only [B7] at hy
      subst hy
      exact (Pr.lst b off cap z l u h1 h2 h3 h4 h5 h6 h7).later (fun _ _=>rfl) hI
    | agg vs l h1 h2 h3 ih=>
      intro y hy
      simp only [B7] at hy
      obtain ⟨l',rfl,hy⟩:=hy
      obtain ⟨g1,g2⟩:=CC hy
      refine .agg vs l' (by rw [h1,g1]) h2 fun i v c' hv hc'=>?_
      obtain ⟨c,hc⟩:∃c,l[i]?=some c:=⟨_,List.getElem?_eq_getElem (by rw [g1];exact (List.getElem?_eq_some_iff.1 hc').1)⟩
      exact ih i v c hv hc c' (g2 i c c' hc hc')
    | rp b off l u h1 h2 h3 h4 ih=>
      intro y hy
      simp only [B7] at hy
      subst hy
      exact (Pr.rp b off l u h1 h2 h3 h4).later (fun _ _=>rfl) hI
    | fn f vs l h1 h2 ih=>
      intro y hy
      simp only [B7] at hy
      obtain ⟨l',rfl,hy⟩:=hy
      obtain ⟨g1,g2⟩:=CC hy
      refine .fn f vs l' (by rw [h1,g1]) fun i v c' hv hc'=>?_
      obtain ⟨c,hc⟩:∃c,l[i]?=some c:=⟨_,List.getElem?_eq_getElem (by rw [g1];exact (List.getElem?_eq_some_iff.1 hc').1)⟩
      exact ih i v c hv hc c' (g2 i c c' hc hc')
    | tup vs l h1 h2 ih=>
      intro y hy
      simp only [B7] at hy
      obtain ⟨l',rfl,hy⟩:=hy
      obtain ⟨g1,g2⟩:=CC hy
      refine .tup vs l' (by rw [h1,g1]) fun i v c' hv hc'=>?_
      obtain ⟨c,hc⟩:∃c,l[i]?=some c:=⟨_,List.getElem?_eq_getElem (by rw [g1];exact (List.getElem?_eq_some_iff.1 hc').1)⟩
      exact ih i v c hv hc c' (g2 i c c' hc hc')
    | nilp=>intro y hy;simp only [B7] at hy;subst hy;exact .nilp
    | nili=>intro y hy;simp only [B7] at hy;subst hy;exact .nili
    | ifi t k n=>intro y hy;simp only [B7] at hy;subst hy;exact .ifi t k n
    | ifx t v=>intro y hy;simp only [B7] at hy;subst hy;exact .ifx t v
    | gp g=>intro y hy;simp only [B7] at hy;subst hy;exact .gp g
    | gsl g n h=>intro y hy;simp only [B7] at hy;subst hy;exact .gsl g n h
   exact .pure _ _ (key h y hy)
 | nsl id base z h=>
   intro y hy;simp only [B7] at hy;obtain ⟨h1,rfl⟩:=hy
   exact .nsl _ base z (by rw [hb _ h1];exact h)
 | sl id off len cap b base z n e h1 h2 h3 h4 h5=>
   intro y hy;simp only [B7] at hy;obtain ⟨g1,rfl⟩:=hy
   exact .sl _ off len cap b base z n e (by rw [hb _ g1];exact h1) h2 h3 h4 h5
 | esl id off a i h=>
   intro y hy;simp only [B7] at hy;obtain ⟨g1,rfl⟩:=hy
   exact .esl _ off a i (by rw [hb _ g1];exact h)
 | ptr id i j b base z n e h1 h2=>
   intro y hy;simp only [B7] at hy;obtain ⟨g1,rfl⟩:=hy
   exact .ptr _ i j b base z n e (by rw [hb _ g1];exact h1) h2
 | it id b base z h1=>
   intro y hy;simp only [B7] at hy;obtain ⟨g1,rfl⟩:=hy
   exact .it _ b base z (by rw [hb _ g1];exact h1)
 | agg vs l h1 h2 h3 ih=>
   intro y hy
   simp only [B7] at hy
   obtain ⟨l',rfl,hy⟩:=hy
   obtain ⟨g1,g2⟩:=CC hy
   refine .agg vs l' (by rw [h1,g1]) h2 fun i v c' hv hc'=>?_
   obtain ⟨c,hc⟩:∃c,l[i]?=some c:=⟨_,List.getElem?_eq_getElem (by rw [g1];exact (List.getElem?_eq_some_iff.1 hc').1)⟩
   exact ih i v c hv hc c' (g2 i c c' hc hc')
 | fn f vs l h1 h2 ih=>
   intro y hy
   simp only [B7] at hy
   obtain ⟨l',rfl,hy⟩:=hy
   obtain ⟨g1,g2⟩:=CC hy
   refine .fn f vs l' (by rw [h1,g1]) fun i v c' hv hc'=>?_
   obtain ⟨c,hc⟩:∃c,l[i]?=some c:=⟨_,List.getElem?_eq_getElem (by rw [g1];exact (List.getElem?_eq_some_iff.1 hc').1)⟩
   exact ih i v c hv hc c' (g2 i c c' hc hc')
 | tup vs l h1 h2 ih=>
   intro y hy
   simp only [B7] at hy
   obtain ⟨l',rfl,hy⟩:=hy
   obtain ⟨g1,g2⟩:=CC hy
   refine .tup vs l' (by rw [h1,g1]) fun i v c' hv hc'=>?_
   obtain ⟨c,hc⟩:∃c,l[i]?=some c:=⟨_,List.getElem?_eq_getElem (by rw [g1];exact (List.getElem?_eq_some_iff.1 hc').1)⟩
   exact ih i v c hv hc c' (g2 i c c' hc hc')
def Ns (k:Nat) (ρ:Nat→Nat) (o o':Ob):Prop:=match o with
 | .row z els=>∃els',o'= .row z els'∧Fj k ρ els els'
 | .iter s p=>o'= .iter s p
 | .mp es=>o'= .mp es
 | .bld T y=>∃y',o'= .bld T y'∧B7 k ρ (yV y) (yV y')
 | .buf U s=>o'= .buf U s
 | .hid _ _=>False
theorem Y2 {k:Nat} {ρ:Nat→Nat} {els els':List V} (h:Fj k ρ els els'):els.length=els'.length∧(∀(i:Nat) (x y:V),els[i]?=some x→els'[i]?=some y→B7 k ρ x y):=CC h
theorem Dc {α β:Type} {l:List α} {l':List β} (h:l.length=l'.length) {i:Nat} {x:α} (hx:l[i]?=some x):∃y,l'[i]?=some y:=
 ⟨_,List.getElem?_eq_getElem (by rw [←h];exact (List.getElem?_eq_some_iff.1 hx).1)⟩
theorem VO {k:Nat} {ρ:Nat→Nat} {w:World} {I:Nat→Prop} {bl blc:Nat→Option BI} (hb:∀j,j < k→blc j=bl (ρ j)) {j:Nat} (hj:j < k) {o o':Ob} (hr:Ns k ρ o o') (h:ObRep w I bl (ρ j) o'):ObRep w I blc j o:=by
 cases o with
 | row z els=>
   obtain ⟨els',rfl,hr⟩:=hr
   obtain ⟨g1,g2⟩:=Y2 hr
   obtain ⟨bi,h1,h2,h3,h4⟩:=h
   refine ⟨bi,by rw [hb j hj];exact h1,h2,fun i x hx=>?_,?_⟩
   ·obtain ⟨y,hy⟩:=Dc g1 hx
    rw [(CC (JN (g2 i x y hx hy))).1]
    exact h3 i y hy
   ·cases hbl:bi.blk with
    | none=>
      simp only [hbl] at h4 ⊢
      subst h4
      exact List.eq_nil_of_length_eq_zero g1
    | some b=>
      simp only [hbl] at h4 ⊢
      obtain ⟨cur,e,hg,hsz,hc⟩:=h4
      refine ⟨cur,e,hg,by rw [g1];exact hsz,fun i x q c hx hxc=>?_⟩
      obtain ⟨y,hy⟩:=Dc g1 hx
      obtain ⟨g3,g4⟩:=CC (JN (g2 i x y hx hy))
      obtain ⟨c',hc'⟩:=Dc g3 hxc
      obtain ⟨u,hu,h1',hr'⟩:=hc i y q c' hy hc'
      exact ⟨u,hu,h1',JO hb c u c' (g4 q c c' hxc hc') hr'⟩
 | iter s p=>
   simp only [Ns] at hr
   subst hr
   obtain ⟨b,base,z,t,h1,h2,h3,h4⟩:=h
   exact ⟨b,base,z,t,by rw [hb j hj];exact h1,h2,h3,h4⟩
 | mp es=>
   simp only [Ns] at hr
   subst hr
   obtain ⟨b,base,z,t,h1,h2,h3,h4⟩:=h
   exact ⟨b,base,z,t,by rw [hb j hj];exact h1,h2,h3,h4⟩
 | bld T y=>
   obtain ⟨y',rfl,hr⟩:=hr
   obtain ⟨b,p,v,h1,h2,h3,h4,h5⟩:=h
   exact ⟨b,p,v,by rw [hb j hj];exact h1,h2,h3,h4,JO hb (yV y) v (yV y') hr h5⟩
 | buf U s=>
   simp only [Ns] at hr
   subst hr
   obtain ⟨blk,h1,h2⟩:=h
   exact ⟨blk,by rw [hb j hj];exact h1,h2⟩
 | hid vs l=>exact hr.elim
theorem d5 {k:Nat} {ρ:Nat→Nat} {w:World} {I I':Nat→Prop} {bl blc:Nat→Option BI} (hI:∀b,I b→I' b) (hb:∀j,j < k→bl (ρ j)=blc j) {j:Nat} (hj:j < k) {o o':Ob} (hr:Ns k ρ o o') (h:ObRep w I blc j o):ObRep w I' bl (ρ j) o':=by
 cases o with
 | row z els=>
   obtain ⟨els',rfl,hr⟩:=hr
   obtain ⟨g1,g2⟩:=Y2 hr
   obtain ⟨bi,h1,h2,h3,h4⟩:=h
   refine ⟨bi,by rw [hb j hj];exact h1,h2,fun i y hy=>?_,?_⟩
   ·obtain ⟨x,hx⟩:=Dc g1.symm hy
    rw [←(CC (JN (g2 i x y hx hy))).1]
    exact h3 i x hx
   ·cases hbl:bi.blk with
    | none=>
      simp only [hbl] at h4 ⊢
      subst h4
      exact List.eq_nil_of_length_eq_zero g1.symm
    | some b=>
      simp only [hbl] at h4 ⊢
      obtain ⟨cur,e,hg,hsz,hc⟩:=h4
      refine ⟨cur,e,hg,by rw [←g1];exact hsz,fun i y q c' hy hyc=>?_⟩
      obtain ⟨x,hx⟩:=Dc g1.symm hy
      obtain ⟨g3,g4⟩:=CC (JN (g2 i x y hx hy))
      obtain ⟨c,hc0⟩:=Dc g3.symm hyc
      obtain ⟨u,hu,h1',hr'⟩:=hc i x q c hx hc0
      exact ⟨u,hu,h1',Pm hI hb hr' c' (g4 q c c' hc0 hyc)⟩
 | iter s p=>
   simp only [Ns] at hr
   subst hr
   obtain ⟨b,base,z,t,h1,h2,h3,h4⟩:=h
   exact ⟨b,base,z,t,by rw [hb j hj];exact h1,h2,h3,h4⟩
 | mp es=>
   simp only [Ns] at hr
   subst hr
   obtain ⟨b,base,z,t,h1,h2,h3,h4⟩:=h
   exact ⟨b,base,z,t,by rw [hb j hj];exact h1,h2,h3,h4⟩
 | bld T y=>
   obtain ⟨y',rfl,hr⟩:=hr
   obtain ⟨b,p,v,h1,h2,h3,h4,h5⟩:=h
   exact ⟨b,p,v,by rw [hb j hj];exact h1,h2,h3,h4,Pm hI hb h5 (yV y') hr⟩
 | buf U s=>
   simp only [Ns] at hr
   subst hr
   obtain ⟨blk,h1,h2⟩:=h
   exact ⟨blk,by rw [hb j hj];exact h1,h2⟩
 | hid vs l=>exact hr.elim
def Od:List Nat→V→V
 | [],x=>x
 | a::M,x=>Od M (x.kill a)
def KC:List Nat→List V→List V
 | [],l=>l
 | a::M,l=>KC M (AF a l)
def BG:List Nat→List (Option Ob)→List (Option Ob)
 | [],h=>h
 | a::M,h=>BG M (BC a h)
theorem KD {w:World} {I:Nat→Prop} {bl':Nat→Option BI} {a:Array Value}:∀(M:List Nat) (bl:Nat→Option BI) (env:List V),(∀id,id∉M→bl' id=bl id)→EnvRep env a w I bl→EnvRep (KC M env) a w I bl'
 | [],bl,x,hb,h=>by
   have:bl'=bl:=funext fun id=>hb id (by simp)
   rw [this];exact h
 | b::M,bl,x,hb,h=>by
   refine KD M (fun id=>if id=b then bl' b else bl id) (AF b x) (fun id hid=>?_) (h.kill b fun k hk=>if_neg hk)
   by_cases e:id=b
   ·subst e;simp
   ·simp only [if_neg e];exact hb id (by simp [e,hid])
theorem DM:∀(M:List Nat) (h:List (Option Ob)),(BG M h).length=h.length
 | [],_=>rfl
 | a::M,h=>by simp [BG,DM M,Ez]
theorem Ia {w:World} {I:Nat→Prop} {bl':Nat→Option BI} {k:Nat}:∀(M:List Nat) (bl:Nat→Option BI) (h:List (Option Ob)) (o:Ob),(∀id,id∉M→bl' id=bl id)→k∉M→(∀o,h[k]?=some (some o)→ObRep w I bl k o)→(BG M h)[k]?=some (some o)→ObRep w I bl' k o
 | [],bl,h,o,hb,hk,ho,e=>by
   have:bl'=bl:=funext fun id=>hb id (by simp)
   rw [this];exact ho o e
 | a::M,bl,h,o,hb,hk,ho,e=>by
   have hka:k≠a:=fun e=>hk (by simp [e])
   refine Ia M (fun id=>if id=a then bl' a else bl id) (BC a h) o (fun id hid=>?_) (fun h=>hk (by simp [h])) (fun o2 ho2=>?_) e
   ·by_cases e:id=a
    ·subst e;simp
    ·simp only [if_neg e];exact hb id (by simp [e,hid])
   ·obtain ⟨o',ho',rfl⟩:=F2 a h k o2 ho2
    exact (ho o' ho').kill a hka fun k hk=>if_neg hk
theorem HV {k:Nat}:∀(M:List Nat) (h:List (Option Ob)) (o:Ob),h[k]?=some (some o)→∃o',(BG M h)[k]?=some (some o')
 | [],h,o,e=>⟨o,e⟩
 | a::M,h,o,e=>HV M (BC a h) _ (FE a h k o e)
def DE (M:List Nat) (u:List (Nat×V)):List (Nat×V):=u.map fun p=>(p.1,Od M p.2)
theorem Ib (n:Nat):∀(M:List Nat) (u:List (Nat×V)) (h h':List (Option Ob)),KC M (ES.env ⟨n,u,h⟩)=ES.env ⟨n,DE M u,h'⟩
 | [],u,h,h'=>by
   have:DE [] u=u:=by unfold DE;simp [Od]
   rw [this];rfl
 | a::M,u,h,h'=>by
   simp only [KC]
   rw [ME n a u h h,Ib n M _ h h']
   unfold DE
   rw [List.map_map]
   rfl
def BL (ρ:Nat→Nat):List Ob→Nat→List (Option Ob)→List (Option Ob)
 | [],_,h=>h
 | o::r,j,h=>BL ρ r (j+1) (h.set (ρ j) (some o))
theorem Fx (ρ:Nat→Nat):∀(l:List Ob) (j:Nat) (h:List (Option Ob)),(BL ρ l j h).length=h.length
 | [],_,_=>rfl
 | o::r,j,h=>by simp [BL,Fx ρ r]
theorem E2 {ρ:Nat→Nat}:∀(l:List Ob) (j:Nat) (h:List (Option Ob)) (id:Nat),(∀i,i < l.length→ρ (j+i)≠id)→(BL ρ l j h)[id]?=h[id]?
 | [],_,_,_,_=>rfl
 | o::r,j,h,id,hn=>by
   simp only [BL]
   rw [E2 r (j+1) _ id (fun i hi=>by have:=hn (i+1) (by simp;omega);rwa [show j+1+i=j+(i+1) by omega])]
   exact List.getElem?_set_ne (hn 0 (by simp))
theorem KE {ρ:Nat→Nat}:∀(l:List Ob) (j:Nat) (h:List (Option Ob)) (i:Nat) (o:Ob),l[i]?=some o→(∀a b,a < l.length→b < l.length→ρ (j+a)=ρ (j+b)→a=b)→ρ (j+i) < h.length→(BL ρ l j h)[ρ (j+i)]?=some (some o)
 | [],_,_,i,o,ho,_,_=>by simp at ho
 | x::r,j,h,0,o,ho,hi,hlt=>by
   simp at ho
   subst ho
   simp only [BL]
   rw [E2 r (j+1) _ _ (fun a ha e=>by
    have:=hi (a+1) 0 (by simp;omega) (by simp) (by rw [←e,show j+(a+1)=j+1+a by omega])
    omega)]
   rw [Nat.add_zero] at hlt ⊢
   rw [List.getElem?_set_self hlt]
 | x::r,j,h,i+1,o,ho,hi,hlt=>by
   simp only [BL]
   rw [show j+(i+1)=j+1+i by omega] at hlt ⊢
   refine KE r (j+1) _ i o (by simpa using ho) (fun a b ha hb e=>?_) (by simpa using hlt)
   have:=hi (a+1) (b+1) (by simp;omega) (by simp;omega) (by rw [show j+(a+1)=j+1+a by omega,show j+(b+1)=j+1+b by omega];exact e)
   omega
theorem Fy {C:Ctx} {P:Program} {f:FuncId} {args0:List V} {objs0:List Ob} {fixed:List Nat} {R:V→List Ob→Prop} (h:HFn P f args0 objs0 fixed R) (hC:C.P=P) (hb:AB P f=true) {fop:Operand} {args:List Operand} {xs:List V} {K:V→ES→Prop} {σ:ES}
 (he:BO σ fop args=some (f,xs)) (ρ:Nat→Nat) (hinj:∀i j,i < objs0.length→j < objs0.length→ρ i=ρ j→i=j) (hx:Fj objs0.length ρ args0 xs) (hobj:∀(j:Nat) (o:Ob),objs0[j]?=some o→∃o',σ.heap[ρ j]?=some (some o')∧Ns objs0.length ρ o o')
 (M:List Nat) (hM:∀j,j < objs0.length→ρ j∉M→j∈fixed) (hMi:∀id∈M,∃j,j < objs0.length∧ρ j=id)
 (hK:∀r0 objs',R r0 objs'→objs'.length=objs0.length→∃(r:V) (objs'':List Ob),B7 objs0.length ρ r0 r∧objs''.length=objs0.length∧(∀(j:Nat) (o o':Ob),objs'[j]?=some o→objs''[j]?=some o'→Ns objs0.length ρ o o')∧K r ⟨σ.n,DE M σ.u,BL ρ objs'' 0 (BG M σ.heap)⟩):
 CallN C fop args f xs K σ:=by
 subst hC
 generalize hk:objs0.length=k at*
 obtain ⟨caps,e1,e2⟩:=CI he
 refine ⟨BM ?_⟩
 unfold Dz
 rw [e1]
 simp only
 rw [e2]
 refine ⟨hb,?_⟩
 rintro a w vs ⟨I,bl,hdef,henv,hxs,hH⟩
 have hH:HeapRep C σ.heap w I bl:=hH
 let blc:Nat→Option BI:=fun j=>if j < k then bl (ρ j) else none
 have hblc:∀j,j < k→blc j=bl (ρ j):=fun j hj=>if_pos hj
 have hblc':∀j i,blc j=some i→j < k∧bl (ρ j)=some i:=by
  intro j i hj
  by_cases hjk:j < k
  ·exact ⟨hjk,by rw [←hblc j hjk];exact hj⟩
  ·simp only [blc,if_neg hjk] at hj;cases hj
 have hown:∀b,Af blc b→b < w.heap.size∧¬I b∧(C.E b∨C.W0.heap.size≤b):=by
  rintro b ⟨j,i,h1,h2⟩
  exact hH.own _ i b (hblc' j i h1).2 h2
 obtain ⟨hxl,hxr⟩:=CC hx
 have hHc:HeapRep ⟨C.P,w,Af blc,I⟩ (objs0.map some) w I blc:=by
  refine ⟨fun j o ho=>?_,fun j i hj=>?_,fun j j' i i' b h1 h2 h3 h4=>?_,fun j i b h1 h2=>?_,fun b hb=>⟨(hH.imm b hb).1,.inl hb⟩,Kept.refl _ _⟩
  ·have ho':objs0[j]?=some o:=by
    rw [List.getElem?_map,Option.map_eq_some_iff] at ho
    obtain ⟨o2,h1,h2⟩:=ho
    simp only [Option.some.injEq] at h2
    rw [h1,h2]
   have hj:j < k:=by rw [←hk];exact (List.getElem?_eq_some_iff.1 ho').1
   obtain ⟨o',h1,h2⟩:=hobj j o ho'
   exact VO hblc hj h2 (hH.obj _ o' h1)
  ·obtain ⟨hj,_⟩:=hblc' j i hj
   exact ⟨objs0[j]'(by omega),by rw [List.getElem?_map,List.getElem?_eq_getElem (by omega)];rfl⟩
  ·obtain ⟨hj,h1⟩:=hblc' j i h1
   obtain ⟨hj',h2⟩:=hblc' j' i' h2
   exact hinj j j' hj hj' (hH.apart _ _ i i' b h1 h2 h3 h4)
  ·have h3:=hown b ⟨j,i,h1,h2⟩
   exact ⟨h3.1,h3.2.1,.inl ⟨j,i,h1,h2⟩⟩
 refine (h w I blc vs (by rw [hxl];exact hxs.1) (fun i v x hv hx'=>?_) hHc).mono ?_
 ·obtain ⟨y,hy⟩:=Dc hxl hx'
  exact JO hblc x v y (hxr i x y hx' hy) (hxs.2 i v y hv hy)
 rintro e w' ⟨v,r0,objs',I',bl',rfl,hR,hlen,hrep,hH',hfix⟩
 obtain ⟨r,objs'',hrr,hl2,hro,hKK⟩:=hK r0 objs' hR (by rw [hlen,hk])
 rw [hk] at hlen
 have hown':∀j i b,bl' j=some i→i.blk=some b→b < w'.heap.size∧¬I' b∧(Af blc b∨w.heap.size≤b):=fun j i b h1 h2=>hH'.own j i b h1 h2
 have hlive':∀j i,bl' j=some i→j < k:=by
  intro j i h1
  obtain ⟨o,ho⟩:=hH'.live j i h1
  have:=(List.getElem?_eq_some_iff.1 ho).1
  simpa [hlen] using this
 have hkeep:∀b,b < w.heap.size→¬Af blc b→w'.heap[b]?=w.heap[b]?:=fun b h1 h2=>hH'.kept.block b h1 h2
 have hsize:w.heap.size≤w'.heap.size:=hH'.kept.size
 have hnotI:∀b,I b→¬Af blc b:=fun b hb h=>(hown b h).2.1 hb
 have hlater:Later I w w':=⟨fun b hb=>hkeep b (hH.imm b hb).1 (hnotI b hb),hH'.kept.shape⟩
 let I2:Nat→Prop:=fun b=>I b∨I' b
 let bl2:Nat→Option BI:=fun id=>match (List.range k).find? (fun j=>decide (ρ j=id)) with|some j=>bl' j|none=>bl id
 have hin:∀j,j < k→bl2 (ρ j)=bl' j:=by
  intro j hj
  have:(List.range k).find? (fun i=>decide (ρ i=ρ j))=some j:=by
   cases hf:(List.range k).find? (fun i=>decide (ρ i=ρ j)) with
   | none=>
     have:=List.find?_eq_none.1 hf j (by simpa using hj)
     simp at this
   | some i=>
     have h1:=List.find?_some hf
     have h2:=List.mem_of_find?_eq_some hf
     simp at h1 h2
     rw [hinj i j h2 hj h1]
  simp only [bl2,this]
 have hout:∀id,(∀j,j < k→ρ j≠id)→bl2 id=bl id:=by
  intro id hid
  have:(List.range k).find? (fun i=>decide (ρ i=id))=none:=by
   rw [List.find?_eq_none]
   intro i hi
   simp at hi ⊢
   exact hid i hi
  simp only [bl2,this]
 have hM2:∀id,id∉M→bl2 id=bl id:=by
  intro id hid
  by_cases hex:∃j,j < k∧ρ j=id
  ·obtain ⟨j,hj,rfl⟩:=hex
   rw [hin j hj,hfix j (hM j hj hid),hblc j hj]
  ·exact hout id fun j hj e=>hex ⟨j,hj,e⟩
 have hI2:∀b,I b→I2 b:=fun b hb=>.inl hb
 have hI2':∀b,I' b→I2 b:=fun b hb=>.inr hb
 have hρlt:∀j,j < k→ρ j < σ.heap.length:=by
  intro j hj
  obtain ⟨o',h1,_⟩:=hobj j _ (List.getElem?_eq_getElem (by omega:j < objs0.length))
  exact (List.getElem?_eq_some_iff.1 h1).1
 have hsetlen:(BL ρ objs'' 0 (BG M σ.heap)).length=σ.heap.length:=by rw [Fx,DM]
 have hat:∀j,(hj:j < k)→(BL ρ objs'' 0 (BG M σ.heap))[ρ j]?=some (some (objs''[j]'(by omega))):=by
  intro j hj
  have:=KE (ρ:=ρ) objs'' 0 (BG M σ.heap) j _ (List.getElem?_eq_getElem (by omega)) (fun a b ha hb e=>hinj a b (by omega) (by omega) (by simpa using e)) (by rw [DM,Nat.zero_add];exact hρlt j hj)
  rwa [Nat.zero_add] at this
 have hoth:∀id,(∀j,j < k→ρ j≠id)→(BL ρ objs'' 0 (BG M σ.heap))[id]?=(BG M σ.heap)[id]?:=by
  intro id hid
  exact E2 objs'' 0 _ id fun i hi=>by rw [Nat.zero_add];exact hid i (by omega)
 have hnotblk:∀id i b,bl id=some i→i.blk=some b→(∀j,j < k→ρ j≠id)→¬Af blc b:=by
  rintro id i b h1 h2 h3 ⟨j,i',h4,h5⟩
  obtain ⟨hj,h4⟩:=hblc' j i' h4
  exact h3 j hj (hH.apart _ _ i' i b h4 h1 h5 h2)
 have hI'cases:∀b,I' b→b < w'.heap.size∧(I b∨Af blc b∨w.heap.size≤b):=fun b hb=>hH'.imm b hb
 refine ⟨v,r,⟨KC M σ.env,BL ρ objs'' 0 (BG M σ.heap)⟩,rfl,⟨_,?_,hKK⟩,I2,bl2,hdef,?_,⟨rfl,fun i v' x hv hx'=>?_⟩,?_⟩
 ·unfold ES.st
  congr 1
  exact Ib σ.n M σ.u σ.heap _
 ·exact KD M bl _ hM2 (henv.later hlater hI2 (fun _ _ h=>h))
 ·cases i with
  | succ i=>simp at hv
  | zero=>
    simp at hv hx'
    subst hv;subst hx'
    exact Pm hI2' hin hrep r hrr
 ·refine ⟨fun id o ho=>?_,fun id i hi=>?_,fun id id' i i' b h1 h2 h3 h4=>?_,fun id i b h1 h2=>?_,fun b hb=>?_,?_⟩
  ·have ho:(BL ρ objs'' 0 (BG M σ.heap))[id]?=some (some o):=ho
   by_cases hex:∃j,j < k∧ρ j=id
   ·obtain ⟨j,hj,rfl⟩:=hex
    rw [hat j hj] at ho
    simp only [Option.some.injEq] at ho
    have ho1:objs'[j]?=some (objs'[j]'(by omega)):=List.getElem?_eq_getElem (by omega)
    have ho2:objs''[j]?=some (objs''[j]'(by omega)):=List.getElem?_eq_getElem (by omega)
    subst ho
    exact d5 hI2' hin hj (hro j _ _ ho1 ho2) (hH'.obj j _ (by rw [List.getElem?_map,ho1];rfl))
   ·have hid:∀j,j < k→ρ j≠id:=fun j hj e=>hex ⟨j,hj,e⟩
    rw [hoth id hid] at ho
    refine Ia M bl σ.heap o hM2 (fun hm=>?_) (fun o2 ho2=>?_) ho
    ·obtain ⟨j,hj,e⟩:=hMi id hm
     exact hid j hj e
    ·exact (hH.obj id o2 ho2).later hlater hI2 (fun _ _ h=>h) (fun i b h1 h2=>hkeep b (hH.own id i b h1 h2).1 (hnotblk id i b h1 h2 hid)) (fun h=>h)
  ·show ∃o,(BL ρ objs'' 0 (BG M σ.heap))[id]?=some (some o)
   by_cases hex:∃j,j < k∧ρ j=id
   ·obtain ⟨j,hj,rfl⟩:=hex
    exact ⟨_,hat j hj⟩
   ·have hid:∀j,j < k→ρ j≠id:=fun j hj e=>hex ⟨j,hj,e⟩
    rw [hoth id hid]
    rw [hout id hid] at hi
    obtain ⟨o,ho⟩:=hH.live id i hi
    exact HV M σ.heap o ho
  ·by_cases hex:∃j,j < k∧ρ j=id
   ·obtain ⟨j,hj,rfl⟩:=hex
    rw [hin j hj] at h1
    by_cases hex':∃j,j < k∧ρ j=id'
    ·obtain ⟨j',hj',rfl⟩:=hex'
     rw [hin j' hj'] at h2
     rw [hH'.apart j j' i i' b h1 h2 h3 h4]
    ·have hid:∀j,j < k→ρ j≠id':=fun j hj e=>hex' ⟨j,hj,e⟩
     rw [hout id' hid] at h2
     obtain ⟨g1,g2,g3⟩:=hown' j i b h1 h3
     have g4:=hH.own id' i' b h2 h4
     rcases g3 with g3|g3
     ·exact absurd g3 (hnotblk id' i' b h2 h4 hid)
     ·omega
   ·have hid:∀j,j < k→ρ j≠id:=fun j hj e=>hex ⟨j,hj,e⟩
    rw [hout id hid] at h1
    by_cases hex':∃j,j < k∧ρ j=id'
    ·obtain ⟨j',hj',rfl⟩:=hex'
     rw [hin j' hj'] at h2
     obtain ⟨g1,g2,g3⟩:=hown' j' i' b h2 h4
     have g4:=hH.own id i b h1 h3
     rcases g3 with g3|g3
     ·exact absurd g3 (hnotblk id i b h1 h3 hid)
     ·omega
    ·have hid':∀j,j < k→ρ j≠id':=fun j hj e=>hex' ⟨j,hj,e⟩
     rw [hout id' hid'] at h2
     exact hH.apart id id' i i' b h1 h2 h3 h4
  ·by_cases hex:∃j,j < k∧ρ j=id
   ·obtain ⟨j,hj,rfl⟩:=hex
    rw [hin j hj] at h1
    obtain ⟨g1,g2,g3⟩:=hown' j i b h1 h2
    refine ⟨g1,fun hb=>?_,?_⟩
    ·rcases hb with hb|hb
     ·rcases g3 with g3|g3
      ·exact hnotI b hb g3
      ·have:=(hH.imm b hb).1;omega
     ·exact g2 hb
    ·rcases g3 with g3|g3
     ·exact (hown b g3).2.2
     ·exact .inr (Nat.le_trans hH.kept.size g3)
   ·have hid:∀j,j < k→ρ j≠id:=fun j hj e=>hex ⟨j,hj,e⟩
    rw [hout id hid] at h1
    obtain ⟨g1,g2,g3⟩:=hH.own id i b h1 h2
    refine ⟨Nat.lt_of_lt_of_le g1 hsize,fun hb=>?_,g3⟩
    rcases hb with hb|hb
    ·exact g2 hb
    ·rcases (hI'cases b hb).2 with h5|h5|h5
     ·exact g2 h5
     ·exact hnotblk id i b h1 h2 hid h5
     ·omega
  ·rcases hb with hb|hb
   ·obtain ⟨g1,g2⟩:=hH.imm b hb
    exact ⟨Nat.lt_of_lt_of_le g1 hsize,g2⟩
   ·obtain ⟨g1,g2⟩:=hI'cases b hb
    refine ⟨g1,?_⟩
    rcases g2 with g2|g2|g2
    ·exact (hH.imm b g2).2
    ·have:=(hown b g2).2.2
     exact this.elim (fun h=>.inr (.inl h)) (fun h=>.inr (.inr h))
    ·exact .inr (.inr (Nat.le_trans hH.kept.size g2))
  ·have hk1:=hH.kept
   have hk2:=hH'.kept
   refine ⟨hk2.os.trans hk1.os,hk2.tape.trans hk1.tape,hk2.output.trans hk1.output,Nat.le_trans hk1.size hsize,fun b h1 h2=>?_,fun b s hs=>hk2.shape b s (hk1.shape b s hs)⟩
   have hlt:b < w.heap.size:=Nat.lt_of_lt_of_le h1 hk1.size
   have hnb:¬Af blc b:=fun hb=>by
    rcases (hown b hb).2.2 with h|h
    ·exact h2 h
    ·omega
   rw [hkeep b hlt hnb]
   exact hk1.block b h1 h2
theorem Cr {C:Ctx} {P:Program} {fop:Operand} {args:List Operand} {f:FuncId} {xs xs':List V} {r:V} {K:V→ES→Prop} {σ:ES} (id:Nat) {z:Nat} {els:List V} (h:Fn1 P f xs' (fun r'=>r'=r)) (hC:C.P=P) (hb:AB P f=true) (hr:σ.heap[id]?=some (some (.row z els))) (hnr:BT els) (hs:Xz r=true) (e:Ai id els xs=xs') (hn:Fa xs'=true) (he:BO σ fop args=some (f,xs)) (hk:K r σ):CallN C fop args f xs K σ:=by
 subst hC
 subst e
 obtain ⟨caps,h1,h2⟩:=CI he
 refine ⟨BM ?_⟩
 unfold Dz
 rw [h1]
 simp only
 rw [h2]
 exact ⟨hb,IR id (z:=z) (els:=els) (by simp [St.row,ES.st,hr]) hnr h (Fi _ hn) hs (DH hk)⟩
end Go.Proofs.YtkaiffheakalmaaGreatDoor
