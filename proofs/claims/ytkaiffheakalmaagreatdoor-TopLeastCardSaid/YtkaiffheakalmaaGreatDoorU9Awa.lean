/- Copied, stripped. No conditions. -/
import Derived.WalkKit
import Derived.ProofKit
set_option linter.unusedSimpArgs false
set_option linter.unusedVariables false
set_option maxRecDepth 100000
namespace Go.Proofs.YtkaiffheakalmaaGreatDoor
open Go.RowKit
inductive V where
  | any
  | bool (b:Bool)
  | int (k:IntKind) (n:Int)
  | str (s:List UInt8)
  | nils
  | lst (l:List V)
  | agg (l:List V)
  | rp (l:List V)
  | fn (f:FuncId) (cap:List V)
  | tup (l:List V)
  | nilp
  | sl (id off len:Nat)
  | ptr (id i j:Nat)
  | it (id:Nat)
  | nili
  | ifi (t:TypeId) (k:IntKind) (n:Int)
  | ifx
  | gp (g:Nat)
  | gsl (g n:Nat)
def V.cells:V→List V
  | .agg l=>l
  | x=>[x]
structure BI where
  blk:Option Nat
  base:Nat
  z:Nat
inductive Pr (w:World) (I:Nat→Prop):Value→V→Prop
  | any (v:Value):Pr w I v .any
  | bool (b:Bool):Pr w I (.bool b) (.bool b)
  | int (k:IntKind) (n:Int):Pr w I (.int k n) (.int k n)
  | str (s:ByteArray):s.size≤maxLen→Pr w I (.string s) (.str s.data.toList)
  | nils:Pr w I (.slice none 0 0) .nils
  | lnil (a:Option Addr) (cap:Nat):Pr w I (.slice a 0 cap) (.lst [])
  | lst (b off cap z:Nat) (l:List V) (u:Nat→Nat→Value):I b→l.length≤cap→cap≤maxLen→(∀(i:Nat) (x:V),l[i]?=some x→x.cells.length=z)→
      (∀i j,i < l.length→j < z→w.cell? ⟨b,off+i*z+j,none⟩=some (u i j))→(∀i j,(u i j).oneCell'=true)→
      (∀(i:Nat) (x:V) (j:Nat) (c:V),l[i]?=some x→x.cells[j]?=some c→Pr w I (u i j) c)→Pr w I (.slice (some ⟨b,off,none⟩) l.length cap) (.lst l)
  | agg (vs:List Value) (l:List V):vs.length=l.length→(∀v:Value,v∈vs→v.oneCell'=true)→(∀(i:Nat) (v:Value) (c:V),vs[i]?=some v→l[i]?=some c→Pr w I v c)→Pr w I (.agg vs.toArray) (.agg l)
  | rp (b off:Nat) (l:List V) (u:Nat→Value):I b→(∀j,j < l.length→w.cell? ⟨b,off+j,none⟩=some (u j))→(∀j,(u j).oneCell'=true)→
      (∀(j:Nat) (c:V),l[j]?=some c→Pr w I (u j) c)→Pr w I (.pointer (some ⟨b,off,none⟩)) (.rp l)
  | fn (f:FuncId) (vs:List Value) (l:List V):vs.length=l.length→(∀(i:Nat) (v:Value) (c:V),vs[i]?=some v→l[i]?=some c→Pr w I v c)→Pr w I (.func (.func f) #[] vs.toArray) (.fn f l)
  | tup (vs:List Value) (l:List V):vs.length=l.length→(∀(i:Nat) (v:Value) (c:V),vs[i]?=some v→l[i]?=some c→Pr w I v c)→Pr w I (.tuple vs.toArray) (.tup l)
  | nilp:Pr w I (.pointer none) .nilp
  | nili:Pr w I .nilIface .nili
  | ifi (t:TypeId) (k:IntKind) (n:Int):Pr w I (.iface t (.int k n)) (.ifi t k n)
  | ifx (t:TypeId) (v:Value):Pr w I (.iface t v) .ifx
  | gp (g:Nat):Pr w I (.pointer (some ⟨g,0,none⟩)) (.gp g)
  | gsl (g n:Nat):n≤maxLen→Pr w I (.slice (some ⟨g,0,none⟩) n n) (.gsl g n)
def i7:Nat→Nat→Value
  | 0,b=>.pointer (some ⟨b,0,none⟩)
  | _+1,b=>.map (some b)
inductive Rep (w:World) (I:Nat→Prop) (bl:Nat→Option BI):Value→V→Prop
  | pure (v:Value) (x:V):Pr w I v x→Rep w I bl v x
  | nsl (id base z:Nat):bl id=some ⟨none,base,z⟩→Rep w I bl (.slice none 0 0) (.sl id 0 0)
  | sl (id off len cap b base z n:Nat) (e:TypeId):bl id=some ⟨some b,base,z⟩→w.shape? b=some (e,n)→base+(off+cap)*z≤n→len≤cap→cap≤maxLen→
      Rep w I bl (.slice (some ⟨b,base+off*z,none⟩) len cap) (.sl id off len)
  | esl (id off:Nat) (a:Addr) (i:BI):bl id=some i→Rep w I bl (.slice (some a) 0 0) (.sl id off 0)
  | ptr (id i j b base z n:Nat) (e:TypeId):bl id=some ⟨some b,base,z⟩→w.shape? b=some (e,n)→Rep w I bl (.pointer (some ⟨b,base+i*z+j,none⟩)) (.ptr id i j)
  | it (id b base z:Nat):bl id=some ⟨some b,base,z⟩→Rep w I bl (i7 base b) (.it id)
  | agg (vs:List Value) (l:List V):vs.length=l.length→(∀v:Value,v∈vs→v.oneCell'=true)→(∀(i:Nat) (v:Value) (c:V),vs[i]?=some v→l[i]?=some c→Rep w I bl v c)→Rep w I bl (.agg vs.toArray) (.agg l)
  | fn (f:FuncId) (vs:List Value) (l:List V):vs.length=l.length→(∀(i:Nat) (v:Value) (c:V),vs[i]?=some v→l[i]?=some c→Rep w I bl v c)→Rep w I bl (.func (.func f) #[] vs.toArray) (.fn f l)
  | tup (vs:List Value) (l:List V):vs.length=l.length→(∀(i:Nat) (v:Value) (c:V),vs[i]?=some v→l[i]?=some c→Rep w I bl v c)→Rep w I bl (.tuple vs.toArray) (.tup l)
structure Later (I:Nat→Prop) (w w':World):Prop where
  block:∀b,I b→w'.heap[b]?=w.heap[b]?
  shape:∀b s,w.shape? b=some s→w'.shape? b=some s
theorem Later.refl (I:Nat→Prop) (w:World):Later I w w:=⟨fun _ _=>rfl,fun _ _ h=>h⟩
theorem HU {w w':World} {b o:Nat} (h:w'.heap[b]?=w.heap[b]?):w'.cell? ⟨b,o,none⟩=w.cell? ⟨b,o,none⟩:=World.cell?_of_block (w:=w) (a:=⟨b,o,none⟩) h
theorem Pr.later {w w':World} {I I':Nat→Prop} {v:Value} {x:V} (h:Pr w I v x) (hl:∀b,I b→w'.heap[b]?=w.heap[b]?) (hI:∀b,I b→I' b):Pr w' I' v x:=by
  induction h with
  | any v=>exact .any v
  | bool b=>exact .bool b
  | int k n=>exact .int k n
  | str s h=>exact .str s h
  | nils=>exact .nils
  | lnil a cap=>exact .lnil a cap
  | lst b off cap z l u h1 h2 h3 h4 h5 h6 h7 ih=>exact .lst b off cap z l u (hI b h1) h2 h3 h4 (fun i j hi hj=>by rw [HU (hl b h1)];exact h5 i j hi hj) h6 ih
  | agg vs l h1 h2 h3 ih=>exact .agg vs l h1 h2 ih
  | rp b off l u h1 h2 h3 h4 ih=>exact .rp b off l u (hI b h1) (fun j hj=>by rw [HU (hl b h1)];exact h2 j hj) h3 ih
  | fn f vs l h1 h2 ih=>exact .fn f vs l h1 ih
  | tup vs l h1 h2 ih=>exact .tup vs l h1 ih
  | nilp=>exact .nilp
  | nili=>exact .nili
  | ifi t k n=>exact .ifi t k n
  | ifx t v=>exact .ifx t v
  | gp g=>exact .gp g
  | gsl g n h=>exact .gsl g n h
theorem Rep.later {w w':World} {I I':Nat→Prop} {bl bl':Nat→Option BI} {v:Value} {x:V} (h:Rep w I bl v x) (hl:Later I w w') (hI:∀b,I b→I' b) (hb:∀id i,bl id=some i→bl' id=some i):Rep w' I' bl' v x:=by
  induction h with
  | pure v x h=>exact .pure v x (h.later hl.block hI)
  | nsl id base z h=>exact .nsl id base z (hb _ _ h)
  | sl id off len cap b base z n e h1 h2 h3 h4 h5=>exact .sl id off len cap b base z n e (hb _ _ h1) (hl.shape _ _ h2) h3 h4 h5
  | esl id off a i h=>exact .esl id off a i (hb _ _ h)
  | ptr id i j b base z n e h1 h2=>exact .ptr id i j b base z n e (hb _ _ h1) (hl.shape _ _ h2)
  | it id b base z h1=>exact .it id b base z (hb _ _ h1)
  | agg vs l h1 h2 h3 ih=>exact .agg vs l h1 h2 ih
  | fn f vs l h1 h2 ih=>exact .fn f vs l h1 ih
  | tup vs l h1 h2 ih=>exact .tup vs l h1 ih
mutual
/-- What is forgotten of an object: every place in it. -/
def V.kill (id:Nat):V→V
  | .sl i off len=>if i=id then .any else .sl i off len
  | .ptr i a b=>if i=id then .any else .ptr i a b
  | .it i=>if i=id then .any else .it i
  | .agg l=>.agg (AK id l)
  | .fn f l=>.fn f (AK id l)
  | .tup l=>.tup (AK id l)
  | x=>x
def AK (id:Nat):List V→List V
  | []=>[]
  | x::l=>x.kill id::AK id l
end
theorem AT (id:Nat):∀l,(AK id l).length=l.length
  | []=>rfl
  | x::l=>by simp [AK,AT id l]
theorem BZ (id:Nat):∀(l:List V) (i:Nat) (c:V),(AK id l)[i]?=some c→∃x,l[i]?=some x∧c=x.kill id
  | [],i,c,h=>by simp [AK] at h
  | x::l,0,c,h=>by simp [AK] at h;exact ⟨x,rfl,h.symm⟩
  | x::l,i+1,c,h=>by
    simp only [AK,List.getElem?_cons_succ] at h
    exact BZ id l i c h
theorem Pr.kill {w:World} {I:Nat→Prop} {v:Value} {x:V} (id:Nat) (h:Pr w I v x):Pr w I v (x.kill id):=by
  induction h with
  | any v=>exact .any v
  | bool b=>exact .bool b
  | int k n=>exact .int k n
  | str s h=>exact .str s h
  | nils=>exact .nils
  | lnil a cap=>exact .lnil a cap
  | lst b off cap z l u h1 h2 h3 h4 h5 h6 h7 ih=>exact .lst b off cap z l u h1 h2 h3 h4 h5 h6 h7
  | agg vs l h1 h2 h3 ih=>
    simp only [V.kill]
    refine .agg vs _ (by rw [AT,h1]) h2 ?_
    intro i v c hv hc
    obtain ⟨x,hx,rfl⟩:=BZ id l i c hc
    exact ih i v x hv hx
  | rp b off l u h1 h2 h3 h4 ih=>exact .rp b off l u h1 h2 h3 h4
  | fn f vs l h1 h2 ih=>
    simp only [V.kill]
    refine .fn f vs _ (by rw [AT,h1]) ?_
    intro i v c hv hc
    obtain ⟨x,hx,rfl⟩:=BZ id l i c hc
    exact ih i v x hv hx
  | tup vs l h1 h2 ih=>
    simp only [V.kill]
    refine .tup vs _ (by rw [AT,h1]) ?_
    intro i v c hv hc
    obtain ⟨x,hx,rfl⟩:=BZ id l i c hc
    exact ih i v x hv hx
  | nilp=>exact .nilp
  | nili=>exact .nili
  | ifi t k n=>exact .ifi t k n
  | ifx t v=>exact .ifx t v
  | gp g=>exact .gp g
  | gsl g n h=>exact .gsl g n h
theorem Rep.kill {w:World} {I:Nat→Prop} {bl bl':Nat→Option BI} {v:Value} {x:V} (id:Nat) (h:Rep w I bl v x) (hb:∀k,k≠id→bl' k=bl k):Rep w I bl' v (x.kill id):=by
  induction h with
  | pure v x h=>exact .pure v _ (h.kill id)
  | nsl k base z h=>
    simp only [V.kill]
    split
    . exact .pure _ _ (.any _)
    . exact .nsl k base z (by rw [hb k ‹_›];exact h)
  | sl k off len cap b base z n e h1 h2 h3 h4 h5=>
    simp only [V.kill]
    split
    . exact .pure _ _ (.any _)
    . exact .sl k off len cap b base z n e (by rw [hb k ‹_›];exact h1) h2 h3 h4 h5
  | esl k off a i h=>
    simp only [V.kill]
    split
    . exact .pure _ _ (.any _)
    . exact .esl k off a i (by rw [hb k ‹_›];exact h)
  | ptr k i j b base z n e h1 h2=>
    simp only [V.kill]
    split
    . exact .pure _ _ (.any _)
    . exact .ptr k i j b base z n e (by rw [hb k ‹_›];exact h1) h2
  | it k b base z h1=>
    simp only [V.kill]
    split
    . exact .pure _ _ (.any _)
    . exact .it k b base z (by rw [hb k ‹_›];exact h1)
  | agg vs l h1 h2 h3 ih=>
    simp only [V.kill]
    refine .agg vs _ (by rw [AT,h1]) h2 ?_
    intro i v c hv hc
    obtain ⟨x,hx,rfl⟩:=BZ id l i c hc
    exact ih i v x hv hx
  | fn f vs l h1 h2 ih=>
    simp only [V.kill]
    refine .fn f vs _ (by rw [AT,h1]) ?_
    intro i v c hv hc
    obtain ⟨x,hx,rfl⟩:=BZ id l i c hc
    exact ih i v x hv hx
  | tup vs l h1 h2 ih=>
    simp only [V.kill]
    refine .tup vs _ (by rw [AT,h1]) ?_
    intro i v c hv hc
    obtain ⟨x,hx,rfl⟩:=BZ id l i c hc
    exact ih i v x hv hx
section inv
variable {w:World} {I:Nat→Prop} {bl:Nat→Option BI} {v:Value}
theorem Rep.inv_bool {b:Bool} (h:Rep w I bl v (.bool b)):v= .bool b:=by
  cases h with
  | pure v x h=>cases h;rfl
theorem Rep.inv_int {k:IntKind} {n:Int} (h:Rep w I bl v (.int k n)):v= .int k n:=by
  cases h with
  | pure v x h=>cases h;rfl
theorem Rep.inv_str {s:List UInt8} (h:Rep w I bl v (.str s)):∃t:ByteArray,v= .string t∧t.data.toList=s∧t.size≤maxLen:=by
  cases h with
  | pure v x h=>cases h;exact ⟨_,rfl,rfl,‹_›⟩
theorem Rep.inv_nils (h:Rep w I bl v .nils):v= .slice none 0 0:=by
  cases h with
  | pure v x h=>cases h;rfl
theorem Rep.inv_nilp (h:Rep w I bl v .nilp):v= .pointer none:=by
  cases h with
  | pure v x h=>cases h;rfl
theorem Rep.inv_nili (h:Rep w I bl v .nili):v= .nilIface:=by
  cases h with
  | pure v x h=>cases h;rfl
theorem Rep.inv_ifi {t:TypeId} {k:IntKind} {n:Int} (h:Rep w I bl v (.ifi t k n)):v= .iface t (.int k n):=by
  cases h with
  | pure v x h=>cases h;rfl
theorem Rep.inv_gp {g:Nat} (h:Rep w I bl v (.gp g)):v= .pointer (some ⟨g,0,none⟩):=by
  cases h with
  | pure v x h=>cases h;rfl
theorem Rep.inv_gsl {g n:Nat} (h:Rep w I bl v (.gsl g n)):v= .slice (some ⟨g,0,none⟩) n n∧n≤maxLen:=by
  cases h with
  | pure v x h=>cases h;exact ⟨rfl,‹_›⟩
theorem Rep.inv_ifx (h:Rep w I bl v .ifx):∃t u,v= .iface t u:=by
  cases h with
  | pure v x h=>cases h;exact ⟨_,_,rfl⟩
theorem Rep.inv_sl {id off len:Nat} (h:Rep w I bl v (.sl id off len)):(∃base z,bl id=some ⟨none,base,z⟩∧off=0∧len=0∧v= .slice none 0 0)∨
    (∃a i,bl id=some i∧len=0∧v= .slice (some a) 0 0)∨
    ∃cap b base z n e,bl id=some ⟨some b,base,z⟩∧w.shape? b=some (e,n)∧base+(off+cap)*z≤n∧len≤cap∧cap≤maxLen∧v= .slice (some ⟨b,base+off*z,none⟩) len cap:=by
  cases h with
  | pure v x h=>cases h
  | nsl id base z h=>exact .inl ⟨_,_,h,rfl,rfl,rfl⟩
  | esl id off a i h=>exact .inr (.inl ⟨_,_,h,rfl,rfl⟩)
  | sl id off len cap b base z n e h1 h2 h3 h4 h5=>exact .inr (.inr ⟨_,_,_,_,_,_,h1,h2,h3,h4,h5,rfl⟩)
theorem Rep.inv_ptr {id i j:Nat} (h:Rep w I bl v (.ptr id i j)):∃b base z n e,bl id=some ⟨some b,base,z⟩∧w.shape? b=some (e,n)∧v= .pointer (some ⟨b,base+i*z+j,none⟩):=by
  cases h with
  | pure v x h=>cases h
  | ptr id i j b base z n e h1 h2=>exact ⟨_,_,_,_,_,h1,h2,rfl⟩
theorem Rep.inv_it {id:Nat} (h:Rep w I bl v (.it id)):∃b base z,bl id=some ⟨some b,base,z⟩∧v=i7 base b:=by
  cases h with
  | pure v x h=>cases h
  | it id b base z h1=>exact ⟨_,_,_,h1,rfl⟩
structure LstIs (w:World) (I:Nat→Prop) (v:Value) (l:List V):Prop where
  max:l.length≤maxLen
  is:(l=[]∧∃a cap,v= .slice a 0 cap)∨∃(b off cap z:Nat) (u:Nat→Nat→Value),I b∧l.length≤cap∧cap≤maxLen∧v= .slice (some ⟨b,off,none⟩) l.length cap∧
    (∀(i:Nat) (x:V),l[i]?=some x→x.cells.length=z)∧(∀i j,i < l.length→j < z→w.cell? ⟨b,off+i*z+j,none⟩=some (u i j))∧(∀i j,(u i j).oneCell'=true)∧
    (∀(i:Nat) (x:V) (j:Nat) (c:V),l[i]?=some x→x.cells[j]?=some c→Pr w I (u i j) c)
theorem Rep.inv_lst {l:List V} (h:Rep w I bl v (.lst l)):LstIs w I v l:=by
  cases h with
  | pure v x h=>
    cases h with
    | lnil a cap=>exact ⟨by simp [maxLen],.inl ⟨rfl,_,_,rfl⟩⟩
    | lst b off cap z l u h1 h2 h3 h4 h5 h6 h7=>exact ⟨by omega,.inr ⟨b,off,cap,z,u,h1,h2,h3,rfl,h4,h5,h6,h7⟩⟩
theorem Rep.inv_agg {l:List V} (h:Rep w I bl v (.agg l)):∃vs:List Value,v= .agg vs.toArray∧vs.length=l.length∧(∀v:Value,v∈vs→v.oneCell'=true)∧∀(i:Nat) (v:Value) (c:V),vs[i]?=some v→l[i]?=some c→Rep w I bl v c:=by
  cases h with
  | pure v x h=>
    cases h with
    | agg vs l h1 h2 h3=>exact ⟨vs,rfl,h1,h2,fun i v c hv hc=>.pure _ _ (h3 i v c hv hc)⟩
  | agg vs l h1 h2 h3=>exact ⟨vs,rfl,h1,h2,h3⟩
theorem Rep.inv_fn {f:FuncId} {l:List V} (h:Rep w I bl v (.fn f l)):∃vs:List Value,v= .func (.func f) #[] vs.toArray∧vs.length=l.length∧∀(i:Nat) (v:Value) (c:V),vs[i]?=some v→l[i]?=some c→Rep w I bl v c:=by
  cases h with
  | pure v x h=>
    cases h with
    | fn f vs l h1 h2=>exact ⟨vs,rfl,h1,fun i v c hv hc=>.pure _ _ (h2 i v c hv hc)⟩
  | fn f vs l h1 h2=>exact ⟨vs,rfl,h1,h2⟩
theorem Rep.inv_tup {l:List V} (h:Rep w I bl v (.tup l)):∃vs:List Value,v= .tuple vs.toArray∧vs.length=l.length∧∀(i:Nat) (v:Value) (c:V),vs[i]?=some v→l[i]?=some c→Rep w I bl v c:=by
  cases h with
  | pure v x h=>
    cases h with
    | tup vs l h1 h2=>exact ⟨vs,rfl,h1,fun i v c hv hc=>.pure _ _ (h2 i v c hv hc)⟩
  | tup vs l h1 h2=>exact ⟨vs,rfl,h1,h2⟩
theorem Rep.inv_rp {l:List V} (h:Rep w I bl v (.rp l)):∃(b off:Nat) (u:Nat→Value),I b∧v= .pointer (some ⟨b,off,none⟩)∧(∀j,j < l.length→w.cell? ⟨b,off+j,none⟩=some (u j))∧(∀j,(u j).oneCell'=true)∧
    ∀(j:Nat) (c:V),l[j]?=some c→Pr w I (u j) c:=by
  cases h with
  | pure v x h=>
    cases h with
    | rp b off l u h1 h2 h3 h4=>exact ⟨b,off,u,h1,rfl,h2,h3,h4⟩
end inv
inductive Ob where
  | row (z:Nat) (els:List V)
  | iter (s:List UInt8) (pos:Nat)
  | bld (T:TypeId) (y:Option (Nat×Nat))
  | buf (U:TypeId) (s:List UInt8)
  | hid (vs:List Value) (l:List V)
  | mp (es:List (Value×Value))
def yV:Option (Nat×Nat)→V
  | none=>.any
  | some (_,0)=>.nils
  | some (q,n+1)=>.sl q 0 (n+1)
def Sy (id:Nat):Option (Nat×Nat)→Option (Nat×Nat)
  | none=>none
  | some (q,n)=>if q=id then none else some (q,n)
structure St where
  env:List V
  heap:List (Option Ob)
structure Ctx where
  P:Program
  W0:World
  E:Nat→Prop
  I0:Nat→Prop
structure Kept (E:Nat→Prop) (w w':World):Prop where
  os:w'.os=w.os
  tape:w'.tape=w.tape
  output:w'.output=w.output
  size:w.heap.size≤w'.heap.size
  block:∀k,k < w.heap.size→¬E k→w'.heap[k]?=w.heap[k]?
  shape:∀b s,w.shape? b=some s→w'.shape? b=some s
theorem Kept.refl (E:Nat→Prop) (w:World):Kept E w w:=⟨rfl,rfl,rfl,Nat.le_refl _,fun _ _ _=>rfl,fun _ _ h=>h⟩
theorem Kept.trans {E:Nat→Prop} {a b c:World} (h:Kept E a b) (k:Kept E b c):Kept E a c:=
  ⟨k.os.trans h.os,k.tape.trans h.tape,k.output.trans h.output,Nat.le_trans h.size k.size,fun i hi he=>(k.block i (Nat.lt_of_lt_of_le hi h.size) he).trans (h.block i hi he),fun b s hs=>k.shape b s (h.shape b s hs)⟩
def Thaw (z:Nat) (fz:Nat×Nat) (n:Nat):Prop:=fz=(0,0)∨(z=1∧n≤fz.1)
def CellsAt (z:Nat) (w:World) (b:Nat) (cur:Array Value) (e:TypeId):Prop:=∃fz,Thaw z fz cur.size∧w.heap[b]?=some (.cells cur e fz)
theorem CellsAt.of {z:Nat} {w:World} {b:Nat} {cur:Array Value} {e:TypeId} (h:w.heap[b]?=some (.cells cur e (0,0))):CellsAt z w b cur e:=⟨(0,0),.inl rfl,h⟩
theorem CellsAt.heap {z:Nat} {w w':World} {b:Nat} {cur:Array Value} {e:TypeId} (h:CellsAt z w b cur e) (hw:w'.heap[b]?=w.heap[b]?):CellsAt z w' b cur e:=by
  obtain ⟨fz,h1,h2⟩:=h
  exact ⟨fz,h1,hw.trans h2⟩
theorem CellsAt.cell {z:Nat} {w:World} {b j:Nat} {cur:Array Value} {e:TypeId} (h:CellsAt z w b cur e):w.cell? ⟨b,j,none⟩=cur[j]?:=by
  obtain ⟨fz,h1,h2⟩:=h
  exact cell_of_row w b _ cur e fz h2
theorem CellsAt.shape {z:Nat} {w:World} {b:Nat} {cur:Array Value} {e:TypeId} (h:CellsAt z w b cur e):w.shape? b=some (e,cur.size):=by
  obtain ⟨fz,h1,h2⟩:=h
  simp [World.shape?,h2]
theorem CellsAt.setRow {z:Nat} {w:World} {b:Nat} {cur cur':Array Value} {e:TypeId} (h:CellsAt z w b cur e) (hs:cur'.size=cur.size):CellsAt z (w.setRow b cur') b cur' e:=by
  obtain ⟨fz,h1,h2⟩:=h
  exact ⟨fz,by rw [hs];exact h1,setRow_heap w b cur cur' e fz h2⟩
theorem Thaw.free {z:Nat} {w:World} {g q:Nat} {cur:Array Value} {t:TypeId} {fz:Nat×Nat} (hz:Thaw z fz cur.size) (hg:w.heap[g]?=some (.cells cur t fz)) (hq:q < cur.size):w.frozen? ⟨g,q,none⟩=false:=by
  simp only [World.frozen?,hg]
  rcases hz with rfl|hz
  . simp
  . have hz:=hz.2
    have:¬fz.1≤q:=by omega
    simp [this]
theorem Qy {z:Nat} {P:Program} {w:World} {g q:Nat} {cur:Array Value} {t:TypeId} {fz:Nat×Nat} {v:Value} (hg:w.heap[g]?=some (.cells cur t fz)) (hz:Thaw z fz cur.size) (hq:q < cur.size) (h1:v.oneCell'=true):
    (store ⟨g,q,none⟩ v).run P w= .ok () (w.setRow g (cur.setIfInBounds q v)):=by
  rw [run_store P w _ v _ h1,show w.cell? ⟨g,q,none⟩=some cur[q] from by rw [cell_of_row w g _ cur t fz hg];simp [hq]]
  simp [hz.free hg hq,setCell_eq_setRow w g q cur t fz v hg]
theorem B6 {z:Nat} {P:Program} (g o:Nat) (t:TypeId) (fz:Nat×Nat) (vs:List Value):∀(i:Nat) (cur:Array Value) (w:World),w.heap[g]?=some (.cells cur t fz)→Thaw z fz cur.size→o+i+vs.length≤cur.size→(∀v∈vs,v.oneCell'=true)→
    (storeCells ⟨g,o,none⟩ vs i).run P w= .ok () (w.setRow g (cur.toList.take (o+i)++vs++cur.toList.drop (o+i+vs.length)).toArray):=by
  induction vs with
  | nil=>
    intro i cur w hg _ _ _
    have e:(cur.toList.take (o+i)++[]++cur.toList.drop (o+i+([]:List Value).length)).toArray=cur:=by simp
    rw [e,setRow_self w g cur t fz hg]
    rfl
  | cons v rest ih=>
    intro i cur w hg hz hl h1
    rw [List.length_cons] at hl
    have hq:o+i < cur.size:=by omega
    have hst:=Qy (P:=P) hg hz hq (h1 v List.mem_cons_self)
    have hsz:(cur.setIfInBounds (o+i) v).size=cur.size:=Array.size_setIfInBounds
    have h2:=ih (i+1) (cur.setIfInBounds (o+i) v) (w.setRow g (cur.setIfInBounds (o+i) v)) (setRow_heap w g cur _ t _ hg) (by rw [hsz];exact hz) (by rw [hsz];omega) (fun x hx=>h1 x (List.mem_cons_of_mem _ hx))
    have hseg:=list_seg_step cur.toList (o+i) v rest (by rw [Array.length_toList];omega)
    rw [storeCells,Sem.run_bind,Addr.add_lit,hst,Result.andThen_ok,h2,setRow_setRow,Array.toList_setIfInBounds]
    congr 3
    first|done|simpa [Nat.add_assoc] using hseg
def ObRep (w:World) (I:Nat→Prop) (bl:Nat→Option BI) (id:Nat):Ob→Prop
  | .row z els=>∃bi,bl id=some bi∧bi.z=z∧(∀(i:Nat) (x:V),els[i]?=some x→x.cells.length=z)∧
      match bi.blk with
      | none=>els=[]
      | some b=>∃cur e,CellsAt z w b cur e∧bi.base+els.length*z≤cur.size∧
          ∀(i:Nat) (x:V) (j:Nat) (c:V),els[i]?=some x→x.cells[j]?=some c→∃u,cur[bi.base+i*z+j]?=some u∧u.oneCell'=true∧Rep w I bl u c
  | .iter s pos=>∃(b _base z:Nat) (t:ByteArray),bl id=some ⟨some b,0,z⟩∧w.heap[b]?=some (.stringIter t pos)∧t.data.toList=s∧t.size≤maxLen
  | .mp es=>∃(b _base z:Nat) (t:Array MapEntry×Nat),bl id=some ⟨some b,1,z⟩∧w.heap[b]?=some (.map t.1 t.2)∧t.1.toList.map (fun e=>(e.key,e.val))=es∧True
  | .bld T y=>∃b p v,bl id=some ⟨some b,0,2⟩∧w.heap[b]?=some (.cells #[p,v] T (0,0))∧(p= .pointer none∨p= .pointer (some ⟨b,0,none⟩))∧v.oneCell'=true∧Rep w I bl v (yV y)
  | .buf U s=>∃blk,bl id=some ⟨blk,0,1⟩∧match blk with
      | none=>s=[]
      | some g=>∃cur,w.heap[g]?=some (.cells cur U (0,0))∧s.length≤cur.size∧∀(i:Nat) (x:UInt8),s[i]?=some x→cur[i]?=some (.int .u8 x.toNat)
  | .hid vs l=>bl id=none∧vs.length=l.length∧∀(i:Nat) (v:Value) (x:V),vs[i]?=some v→l[i]?=some x→Rep w I bl v x
structure HeapRep (C:Ctx) (h:List (Option Ob)) (w:World) (I:Nat→Prop) (bl:Nat→Option BI):Prop where
  obj:∀id o,h[id]?=some (some o)→ObRep w I bl id o
  live:∀id i,bl id=some i→∃o,h[id]?=some (some o)
  apart:∀id id' i i' b,bl id=some i→bl id'=some i'→i.blk=some b→i'.blk=some b→id=id'
  own:∀id i b,bl id=some i→i.blk=some b→b < w.heap.size∧¬I b∧(C.E b∨C.W0.heap.size≤b)
  imm:∀k,I k→k < w.heap.size∧(C.I0 k∨C.E k∨C.W0.heap.size≤k)
  kept:Kept C.E C.W0 w
def EnvRep (env:List V) (a:Array Value) (w:World) (I:Nat→Prop) (bl:Nat→Option BI):Prop:=
  env.length=a.size∧∀(i:Nat) (v:Value) (x:V),a[i]?=some v→env[i]?=some x→Rep w I bl v x
def HZ (C:Ctx) (σ:St) (xs:List V) (a:Act) (w:World) (vs:List Value):Prop:=
  ∃(I:Nat→Prop) (bl:Nat→Option BI),a.defers=[]∧EnvRep σ.env a.tmps w I bl∧
    (xs.length=vs.length∧∀(i:Nat) (v:Value) (x:V),vs[i]?=some v→xs[i]?=some x→Rep w I bl v x)∧HeapRep C σ.heap w I bl
def Rel (C:Ctx) (σ:St) (a:Act) (w:World):Prop:=HZ C σ [] a w []
def Up (C:Ctx) (T:St→Prop) (σ:St):Prop:=∀a w,Rel C σ a w→∃σ',T σ'∧Rel C σ' a w
theorem Bg {C:Ctx} {T:St→Prop} {σ:St} (h:T σ):Up C T σ:=fun _ _ hr=>⟨σ,h,hr⟩
theorem YY {C:Ctx} {T T':St→Prop} {σ:St} (h:Up C T σ) (ht:∀σ,T σ→T' σ):Up C T' σ:=fun a w hr=>let ⟨σ',h1,h2⟩:=h a w hr;⟨σ',ht _ h1,h2⟩
theorem BQ {C:Ctx} {T:St→Prop} {σ σ':St} (hr:∀a w,Rel C σ a w→Rel C σ' a w) (h:Up C T σ'):Up C T σ:=fun a w h1=>h a w (hr a w h1)
def O7 (C:Ctx) (c:Code) (Q:Exit→St→Prop) (σ:St):Prop:=
  ∀a w,Rel C σ a w→c.wp C.P (fun e a' w'=>∃σ',Q e σ'∧Rel C σ' a' w') a w
def gN (k:St→Prop) (Q:Exit→St→Prop):Exit→St→Prop
  | .normal,σ=>k σ
  | e,σ=>Q e σ
def jd (id:Nat) (Q:Exit→St→Prop):Exit→St→Prop
  | .exit id',σ=>if id'=id then Q .normal σ else Q (.exit id') σ
  | e,σ=>Q e σ
theorem O8 (id id':Nat) (Q:Exit→St→Prop) (σ:St):jd id Q (.exit id') σ=if id'=id then Q .normal σ else Q (.exit id') σ:=rfl
section rules
variable {C:Ctx} {Q:Exit→St→Prop} {σ:St}
theorem Vo (h:Q .normal σ):O7 C .skip Q σ:=fun _ _ hr=>wp_skip ⟨σ,h,hr⟩
theorem Vp {id:Nat} (h:Q (.exit id) σ):O7 C (.exit id) Q σ:=fun _ _ hr=>wp_exit ⟨σ,h,hr⟩
theorem YZ (h:Q .ret σ):O7 C .ret Q σ:=fun _ _ hr=>wp_ret ⟨σ,h,hr⟩
theorem H4 {c:Code} {Q':Exit→St→Prop} (h:O7 C c Q σ) (hq:∀e σ,Q e σ→Q' e σ):O7 C c Q' σ:=
  fun a w hr=>wp_mono (h a w hr) fun _ _ _ ⟨σ',h1,h2⟩=>⟨σ',hq _ _ h1,h2⟩
theorem Ya {x y:Code} (h:O7 C x (gN (O7 C y Q) Q) σ):O7 C (.seq x y) Q σ:=by
  intro a w hr
  refine wp_seq (wp_mono (h a w hr) ?_)
  rintro e a' w' ⟨σ',h1,h2⟩
  cases e with
  | normal=>exact h1 a' w' h2
  | exit id=>exact ⟨σ',h1,h2⟩
  | goto l=>exact ⟨σ',h1,h2⟩
  | ret=>exact ⟨σ',h1,h2⟩
  | panic ch=>exact ⟨σ',h1,h2⟩
  | outgrown=>exact ⟨σ',h1,h2⟩
theorem T9 {id:Nat} {c:Code} (h:O7 C c (jd id Q) σ):O7 C (.block id c) Q σ:=by
  intro a w hr
  refine wp_block (wp_mono (h a w hr) ?_)
  rintro e a' w' ⟨σ',h1,h2⟩
  cases e with
  | normal=>exact ⟨σ',h1,h2⟩
  | exit id'=>
    simp only [O8] at h1
    simp only [Exit.inBlock]
    split at h1<;>rename_i he
    . rw [if_pos he];exact ⟨σ',h1,h2⟩
    . rw [if_neg he];exact ⟨σ',h1,h2⟩
  | goto l=>exact ⟨σ',h1,h2⟩
  | ret=>exact ⟨σ',h1,h2⟩
  | panic ch=>exact ⟨σ',h1,h2⟩
  | outgrown=>exact ⟨σ',h1,h2⟩
theorem O9 {P:Program} {Q:Exit→Act→World→Prop} {a:Act} {w:World} {c:Code} (J:Nat→Act→World→Prop) (n0:Nat) (h0:J n0 a w)
    (round:∀n a w,J n a w→c.wp P (Exit.then (fun a' w'=>∃n',n' < n∧J n' a' w') Q) a w):(Code.loop c).wp P Q a w:=by
  intro b k cs
  have key:∀n a w,J n a w→
      ∃e a' w',Q e a' w'∧Arrives P (lone (b.at a (.code c::.inLoop c::k)) cs w) b k cs e a' w':=by
    intro n
    induction n using Nat.strongRecOn with
    | _ n ih=>
      intro a w hI
      obtain ⟨e,a1,w1,hq,harr⟩:=round n a w hI b (.inLoop c::k) cs
      cases e with
      | normal=>
        obtain ⟨n',hlt,hI1⟩:=hq
        obtain ⟨e2,a2,w2,hq2,harr2⟩:=ih n' hlt a1 w1 hI1
        exact ⟨e2,a2,w2,hq2,.of_steps (Steps.trans harr (.one step_inLoop)) harr2⟩
      | exit id=>exact ⟨_,a1,w1,hq,.pass (x:=.inLoop c) rfl (fun _ _=>.inl (by simp)) harr⟩
      | goto l=>exact ⟨_,a1,w1,hq,.pass (x:=.inLoop c) rfl (fun _ _=>.inl (by simp)) harr⟩
      | ret=>exact ⟨_,a1,w1,hq,.pass (x:=.inLoop c) rfl (fun _ _=>.inl (by simp)) harr⟩
      | panic ch=>exact ⟨_,a1,w1,hq,.pass (x:=.inLoop c) rfl (fun _ _=>.inl (by simp)) harr⟩
      | outgrown=>exact ⟨_,a1,w1,hq,.pass (x:=.inLoop c) rfl (fun _ _=>.inl (by simp)) harr⟩
  obtain ⟨e,a',w',hq,harr⟩:=key _ a w h0
  exact ⟨e,a',w',hq,.of_steps (.one step_loop) harr⟩
theorem Vq {c:Operand} {x y:Code} (t:Bool) (hc:∀a w,Rel C σ a w→a.eval c= .bool t) (ht:t=true→O7 C x Q σ) (hf:t=false→O7 C y Q σ):O7 C (.cond c x y) Q σ:=by
  intro a w hr
  refine wp_cond_split (hc a w hr) (fun h=>ht h a w hr) (fun h=>hf h a w hr)
end rules
end Go.Proofs.YtkaiffheakalmaaGreatDoor
