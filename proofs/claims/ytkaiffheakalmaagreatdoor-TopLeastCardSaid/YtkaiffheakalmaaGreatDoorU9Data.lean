/- Copied, stripped. No conditions. -/
import Derived.Test.YtkaiffheakalmaaGreatDoorU9Law
set_option linter.unusedSimpArgs false
set_option linter.unusedVariables false
set_option maxRecDepth 100000
namespace Go.Proofs.YtkaiffheakalmaaGreatDoor
open Go.RowKit
mutual
def V.nl:V→V
  | .nils=>.lst []
  | .agg l=>.agg (J4 l)
  | .tup l=>.tup (J4 l)
  | .lst l=>.lst (J4 l)
  | .rp l=>.rp (J4 l)
  | .fn f l=>.fn f (J4 l)
  | x=>x
def J4:List V→List V
  | []=>[]
  | x::l=>x.nl::J4 l
end
theorem BL:∀l,(J4 l).length=l.length
  | []=>by simp [J4]
  | x::l=>by simp [J4,BL l]
theorem CX:∀(l:List V) (i:Nat) (c:V),(J4 l)[i]?=some c→∃x,l[i]?=some x∧c=x.nl
  | [],i,c,h=>by simp [J4] at h
  | x::l,0,c,h=>by simp [J4] at h;exact ⟨x,rfl,h.symm⟩
  | x::l,i+1,c,h=>by
    simp only [J4,List.getElem?_cons_succ] at h
    obtain ⟨y,hy,e⟩:=CX l i c h
    exact ⟨y,by simpa using hy,e⟩
theorem IV (x:V):x.nl.cells=J4 x.cells:=by cases x<;>simp [V.nl,V.cells,J4]
theorem Pr.nl {w:World} {I:Nat→Prop} {v:Value} {x:V} (h:Pr w I v x):Pr w I v x.nl:=by
  induction h with
  | any v=>exact .any v
  | bool b=>exact .bool b
  | int k n=>exact .int k n
  | str s h=>exact .str s h
  | nils=>simp only [V.nl];exact .lnil none 0
  | lnil a cap=>simp only [V.nl,J4];exact .lnil a cap
  | lst b off cap z l u h1 h2 h3 h4 h5 h6 h7 ih=>
    simp only [V.nl]
    rw [←BL l]
    refine .lst b off cap z _ u h1 (by rw [BL];exact h2) h3 (fun i c hc=>?_) (fun i j hi hj=>h5 i j (by rwa [BL] at hi) hj) h6 (fun i c j d hc hd=>?_)
    . obtain ⟨y,hy,rfl⟩:=CX l i c hc
      rw [IV,BL]
      exact h4 i y hy
    . obtain ⟨y,hy,rfl⟩:=CX l i c hc
      rw [IV] at hd
      obtain ⟨e,he,rfl⟩:=CX _ j d hd
      exact ih i y j e hy he
  | agg vs l h1 h2 h3 ih=>
    simp only [V.nl]
    refine .agg vs _ (by rw [BL,h1]) h2 (fun i v c hv hc=>?_)
    obtain ⟨x,hx,rfl⟩:=CX l i c hc
    exact ih i v x hv hx
  | rp b off l u h1 h2 h3 h4 ih=>
    simp only [V.nl]
    refine .rp b off _ u h1 (fun j hj=>h2 j (by rwa [BL] at hj)) h3 (fun j c hc=>?_)
    obtain ⟨x,hx,rfl⟩:=CX l j c hc
    exact ih j x hx
  | fn f vs l h1 h2 ih=>
    simp only [V.nl]
    refine .fn f vs _ (by rw [BL,h1]) (fun i v c hv hc=>?_)
    obtain ⟨x,hx,rfl⟩:=CX l i c hc
    exact ih i v x hv hx
  | tup vs l h1 h2 ih=>
    simp only [V.nl]
    refine .tup vs _ (by rw [BL,h1]) (fun i v c hv hc=>?_)
    obtain ⟨x,hx,rfl⟩:=CX l i c hc
    exact ih i v x hv hx
  | nilp=>exact .nilp
  | nili=>exact .nili
  | ifi t k n=>exact .ifi t k n
  | ifx t v=>exact .ifx t v
  | gp g=>exact .gp g
  | gsl g n h=>exact .gsl g n h
theorem OK {P:Program} {f:FuncId} {args:List V} {R:V→Prop} (h:Fn1 P f args fun r=>R r.nl):Fn1 P f args R:=
  fun w I vs h1 h2 h3=>(h w I vs h1 h2 h3).mono fun _ _ ⟨v,r,I',a,b,c,d⟩=>⟨v,r.nl,I',a,b,c.nl,d⟩
theorem ZL (id:Nat) (els:List V) (x:V):x.nr→x.frz id els=x:=by
  refine V.rec (motive_1:=fun x=>x.nr→x.frz id els=x) (motive_2:=fun l=>BN l→An id els l=l) ?_ ?_ ?_ ?_ ?_ ?_ ?_ ?_ ?_ ?_ ?_ ?_ ?_ ?_ ?_ ?_ ?_ ?_ ?_ ?_ ?_ x
  all_goals first
    | (intro h;simp [V.frz,An];done)
    | (intro a h;simp [V.frz];done)
    | (intro a b h;simp [V.frz];done)
    | (intro a b c h;simp [V.frz];done)
    | (intro a ih h;simp [V.frz];done)
    | (intro l ih h;simp only [V.frz];rw [ih h])
    | (intro f l ih h;simp only [V.frz];rw [ih h])
    | (intro a b c h;exact (h:False).elim)
    | (intro a h;exact (h:False).elim)
    | (intro x l h1 h2 h;simp only [An];rw [h1 h.1,h2 h.2])
theorem AZ (id:Nat) (els:List V):∀{l:List V},BN l→An id els l=l
  | [],_=>by simp [An]
  | x::l,h=>by simp only [An];rw [ZL id els x h.1,AZ id els h.2]
theorem Wr (id:Nat) (x:V):x.nr→x.kill id=x:=by
  refine V.rec (motive_1:=fun x=>x.nr→x.kill id=x) (motive_2:=fun l=>BN l→AK id l=l) ?_ ?_ ?_ ?_ ?_ ?_ ?_ ?_ ?_ ?_ ?_ ?_ ?_ ?_ ?_ ?_ ?_ ?_ ?_ ?_ ?_ x
  all_goals first
    | (intro h;simp [V.kill,AK];done)
    | (intro a h;simp [V.kill];done)
    | (intro a b h;simp [V.kill];done)
    | (intro a b c h;simp [V.kill];done)
    | (intro a ih h;simp [V.kill];done)
    | (intro l ih h;simp only [V.kill];rw [ih h])
    | (intro f l ih h;simp only [V.kill];rw [ih h])
    | (intro a b c h;exact (h:False).elim)
    | (intro a h;exact (h:False).elim)
    | (intro x l h1 h2 h;simp only [AK];rw [h1 h.1,h2 h.2])
theorem AA (id:Nat):∀{l:List V},BN l→AK id l=l
  | [],_=>by simp [AK]
  | x::l,h=>by simp only [AK];rw [Wr id x h.1,AA id h.2]
theorem TW {α:Type} (f:α→Nat):∀(l:List α) (x:α),x∈l→f x≤(l.map f).sum
  | [],x,h=>by simp at h
  | y::l,x,h=>by
    simp at h
    rcases h with rfl|h
    . simp
    . have:=TW f l x h
      simp;omega
theorem NV {α:Type} (f:α→Nat) (hf:∀x,1≤f x):∀l:List α,l.length≤(l.map f).sum
  | []=>by simp
  | x::l=>by have:=NV f hf l;have:=hf x;simp;omega
end Go.Proofs.YtkaiffheakalmaaGreatDoor
