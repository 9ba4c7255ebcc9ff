/- Joined. No conditions. -/
import Derived.WalkKit
import Derived.ProofKit
set_option linter.unusedSimpArgs false
set_option linter.unusedVariables false
set_option maxRecDepth 100000
namespace Go.Proofs.YtkaiffheakalmaaGreatDoor
section
open Go.RowKit
inductive V where
 | any
 | bool (b:Bool)
 | int (k:IntKind) (n:Int)
 | str (s:List UInt8)
 | nils
 | lst (l:List V)
 | agg (l:List V)
 | rp (l:List V)
 | fn (f:FuncId) (cap:List V)
 | tup (l:List V)
 | nilp
 | sl (id off len:Nat)
 | ptr (id i j:Nat)
 | it (id:Nat)
 | nili
 | ifi (t:TypeId) (k:IntKind) (n:Int)
 | ifx
 | gp (g:Nat)
 | gsl (g n:Nat)
def V.cells:V→List V
 | .agg l=>l
 | x=>[x]
structure BI where
 blk:Option Nat
 base:Nat
 z:Nat
inductive Pr (w:World) (I:Nat→Prop):Value→V→Prop
 | any (v:Value):Pr w I v .any
 | bool (b:Bool):Pr w I (.bool b) (.bool b)
 | int (k:IntKind) (n:Int):Pr w I (.int k n) (.int k n)
 | str (s:ByteArray):s.size≤maxLen→Pr w I (.string s) (.str s.data.toList)
 | nils:Pr w I (.slice none 0 0) .nils
 | lnil (a:Option Addr) (cap:Nat):Pr w I (.slice a 0 cap) (.lst [])
 | lst (b off cap z:Nat) (l:List V) (u:Nat→Nat→Value):I b→l.length≤cap→cap≤maxLen→(∀(i:Nat) (x:V),l[i]?=some x→x.cells.length=z)→
    (∀i j,i < l.length→j < z→w.cell? ⟨b,off+i*z+j,none⟩=some (u i j))→(∀i j,(u i j).oneCell'=true)→
    (∀(i:Nat) (x:V) (j:Nat) (c:V),l[i]?=some x→x.cells[j]?=some c→Pr w I (u i j) c)→Pr w I (.slice (some ⟨b,off,none⟩) l.length cap) (.lst l)
 | agg (vs:List Value) (l:List V):vs.length=l.length→(∀v:Value,v∈vs→v.oneCell'=true)→(∀(i:Nat) (v:Value) (c:V),vs[i]?=some v→l[i]?=some c→Pr w I v c)→Pr w I (.agg vs.toArray) (.agg l)
 | rp (b off:Nat) (l:List V) (u:Nat→Value):I b→(∀j,j < l.length→w.cell? ⟨b,off+j,none⟩=some (u j))→(∀j,(u j).oneCell'=true)→
    (∀(j:Nat) (c:V),l[j]?=some c→Pr w I (u j) c)→Pr w I (.pointer (some ⟨b,off,none⟩)) (.rp l)
 | fn (f:FuncId) (vs:List Value) (l:List V):vs.length=l.length→(∀(i:Nat) (v:Value) (c:V),vs[i]?=some v→l[i]?=some c→Pr w I v c)→Pr w I (.func (.func f) #[] vs.toArray) (.fn f l)
 | tup (vs:List Value) (l:List V):vs.length=l.length→(∀(i:Nat) (v:Value) (c:V),vs[i]?=some v→l[i]?=some c→Pr w I v c)→Pr w I (.tuple vs.toArray) (.tup l)
 | nilp:Pr w I (.pointer none) .nilp
 | nili:Pr w I .nilIface .nili
 | ifi (t:TypeId) (k:IntKind) (n:Int):Pr w I (.iface t (.int k n)) (.ifi t k n)
 | ifx (t:TypeId) (v:Value):Pr w I (.iface t v) .ifx
 | gp (g:Nat):Pr w I (.pointer (some ⟨g,0,none⟩)) (.gp g)
 | gsl (g n:Nat):n≤maxLen→Pr w I (.slice (some ⟨g,0,none⟩) n n) (.gsl g n)
def jY:Nat→Nat→Value
 | 0,b=>.pointer (some ⟨b,0,none⟩)
 | _+1,b=>.map (some b)
inductive Rep (w:World) (I:Nat→Prop) (bl:Nat→Option BI):Value→V→Prop
 | pure (v:Value) (x:V):Pr w I v x→Rep w I bl v x
 | nsl (id base z:Nat):bl id=some ⟨none,base,z⟩→Rep w I bl (.slice none 0 0) (.sl id 0 0)
 | sl (id off len cap b base z n:Nat) (e:TypeId):bl id=some ⟨some b,base,z⟩→w.shape? b=some (e,n)→base+(off+cap)*z≤n→len≤cap→cap≤maxLen→
    Rep w I bl (.slice (some ⟨b,base+off*z,none⟩) len cap) (.sl id off len)
 | esl (id off:Nat) (a:Addr) (i:BI):bl id=some i→Rep w I bl (.slice (some a) 0 0) (.sl id off 0)
 | ptr (id i j b base z n:Nat) (e:TypeId):bl id=some ⟨some b,base,z⟩→w.shape? b=some (e,n)→Rep w I bl (.pointer (some ⟨b,base+i*z+j,none⟩)) (.ptr id i j)
 | it (id b base z:Nat):bl id=some ⟨some b,base,z⟩→Rep w I bl (jY base b) (.it id)
 | agg (vs:List Value) (l:List V):vs.length=l.length→(∀v:Value,v∈vs→v.oneCell'=true)→(∀(i:Nat) (v:Value) (c:V),vs[i]?=some v→l[i]?=some c→Rep w I bl v c)→Rep w I bl (.agg vs.toArray) (.agg l)
 | fn (f:FuncId) (vs:List Value) (l:List V):vs.length=l.length→(∀(i:Nat) (v:Value) (c:V),vs[i]?=some v→l[i]?=some c→Rep w I bl v c)→Rep w I bl (.func (.func f) #[] vs.toArray) (.fn f l)
 | tup (vs:List Value) (l:List V):vs.length=l.length→(∀(i:Nat) (v:Value) (c:V),vs[i]?=some v→l[i]?=some c→Rep w I bl v c)→Rep w I bl (.tuple vs.toArray) (.tup l)
structure Later (I:Nat→Prop) (w w':World):Prop where
 block:∀b,I b→w'.heap[b]?=w.heap[b]?
 shape:∀b s,w.shape? b=some s→w'.shape? b=some s
theorem Later.refl (I:Nat→Prop) (w:World):Later I w w:=⟨fun _ _=>rfl,fun _ _ h=>h⟩
theorem IK {w w':World} {b o:Nat} (h:w'.heap[b]?=w.heap[b]?):w'.cell? ⟨b,o,none⟩=w.cell? ⟨b,o,none⟩:=World.cell?_of_block (w:=w) (a:=⟨b,o,none⟩) h
theorem Pr.later {w w':World} {I I':Nat→Prop} {v:Value} {x:V} (h:Pr w I v x) (hl:∀b,I b→w'.heap[b]?=w.heap[b]?) (hI:∀b,I b→I' b):Pr w' I' v x:=by
 induction h with
 | any v=>exact .any v
 | bool b=>exact .bool b
 | int k n=>exact .int k n
 | str s h=>exact .str s h
 | nils=>exact .nils
 | lnil a cap=>exact .lnil a cap
 | lst b off cap z l u h1 h2 h3 h4 h5 h6 h7 ih=>exact .lst b off cap z l u (hI b h1) h2 h3 h4 (fun i j hi hj=>by rw [IK (hl b h1)];exact h5 i j hi hj) h6 ih
 | agg vs l h1 h2 h3 ih=>exact .agg vs l h1 h2 ih
 | rp b off l u h1 h2 h3 h4 ih=>exact .rp b off l u (hI b h1) (fun j hj=>by rw [IK (hl b h1)];exact h2 j hj) h3 ih
 | fn f vs l h1 h2 ih=>exact .fn f vs l h1 ih
 | tup vs l h1 h2 ih=>exact .tup vs l h1 ih
 | nilp=>exact .nilp
 | nili=>exact .nili
 | ifi t k n=>exact .ifi t k n
 | ifx t v=>exact .ifx t v
 | gp g=>exact .gp g
 | gsl g n h=>exact .gsl g n h
theorem Rep.later {w w':World} {I I':Nat→Prop} {bl bl':Nat→Option BI} {v:Value} {x:V} (h:Rep w I bl v x) (hl:Later I w w') (hI:∀b,I b→I' b) (hb:∀id i,bl id=some i→bl' id=some i):Rep w' I' bl' v x:=by
 induction h with
 | pure v x h=>exact .pure v x (h.later hl.block hI)
 | nsl id base z h=>exact .nsl id base z (hb _ _ h)
 | sl id off len cap b base z n e h1 h2 h3 h4 h5=>exact .sl id off len cap b base z n e (hb _ _ h1) (hl.shape _ _ h2) h3 h4 h5
 | esl id off a i h=>exact .esl id off a i (hb _ _ h)
 | ptr id i j b base z n e h1 h2=>exact .ptr id i j b base z n e (hb _ _ h1) (hl.shape _ _ h2)
 | it id b base z h1=>exact .it id b base z (hb _ _ h1)
 | agg vs l h1 h2 h3 ih=>exact .agg vs l h1 h2 ih
 | fn f vs l h1 h2 ih=>exact .fn f vs l h1 ih
 | tup vs l h1 h2 ih=>exact .tup vs l h1 ih
mutual
/-- What is forgotten of an object: every place in it. -/
def V.kill (id:Nat):V→V
 | .sl i off len=>if i=id then .any else .sl i off len
 | .ptr i a b=>if i=id then .any else .ptr i a b
 | .it i=>if i=id then .any else .it i
 | .agg l=>.agg (AF id l)
 | .fn f l=>.fn f (AF id l)
 | .tup l=>.tup (AF id l)
 | x=>x
def AF (id:Nat):List V→List V
 | []=>[]
 | x::l=>x.kill id::AF id l
end
theorem AQ (id:Nat):∀l,(AF id l).length=l.length
 | []=>rfl
 | x::l=>by simp [AF,AQ id l]
theorem Bj (id:Nat):∀(l:List V) (i:Nat) (c:V),(AF id l)[i]?=some c→∃x,l[i]?=some x∧c=x.kill id
 | [],i,c,h=>by simp [AF] at h
 | x::l,0,c,h=>by simp [AF] at h;exact ⟨x,rfl,h.symm⟩
 | x::l,i+1,c,h=>by
   simp only [AF,List.getElem?_cons_succ] at h
   exact Bj id l i c h
theorem Pr.kill {w:World} {I:Nat→Prop} {v:Value} {x:V} (id:Nat) (h:Pr w I v x):Pr w I v (x.kill id):=by
 induction h with
 | any v=>exact .any v
 | bool b=>exact .bool b
 | int k n=>exact .int k n
 | str s h=>exact .str s h
 | nils=>exact .nils
 | lnil a cap=>exact .lnil a cap
 | lst b off cap z l u h1 h2 h3 h4 h5 h6 h7 ih=>exact .lst b off cap z l u h1 h2 h3 h4 h5 h6 h7
 | agg vs l h1 h2 h3 ih=>
   simp only [V.kill]
   refine .agg vs _ (by rw [AQ,h1]) h2 ?_
   intro i v c hv hc
   obtain ⟨x,hx,rfl⟩:=Bj id l i c hc
   exact ih i v x hv hx
 | rp b off l u h1 h2 h3 h4 ih=>exact .rp b off l u h1 h2 h3 h4
 | fn f vs l h1 h2 ih=>
   simp only [V.kill]
   refine .fn f vs _ (by rw [AQ,h1]) ?_
   intro i v c hv hc
   obtain ⟨x,hx,rfl⟩:=Bj id l i c hc
   exact ih i v x hv hx
 | tup vs l h1 h2 ih=>
   simp only [V.kill]
   refine .tup vs _ (by rw [AQ,h1]) ?_
   intro i v c hv hc
   obtain ⟨x,hx,rfl⟩:=Bj id l i c hc
   exact ih i v x hv hx
 | nilp=>exact .nilp
 | nili=>exact .nili
 | ifi t k n=>exact .ifi t k n
 | ifx t v=>exact .ifx t v
 | gp g=>exact .gp g
 | gsl g n h=>exact .gsl g n h
theorem Rep.kill {w:World} {I:Nat→Prop} {bl bl':Nat→Option BI} {v:Value} {x:V} (id:Nat) (h:Rep w I bl v x) (hb:∀k,k≠id→bl' k=bl k):Rep w I bl' v (x.kill id):=by
 induction h with
 | pure v x h=>exact .pure v _ (h.kill id)
 | nsl k base z h=>
   simp only [V.kill]
   split
   ·exact .pure _ _ (.any _)
   ·exact .nsl k base z (by rw [hb k ‹_›];exact h)
 | sl k off len cap b base z n e h1 h2 h3 h4 h5=>
   simp only [V.kill]
   split
   ·exact .pure _ _ (.any _)
   ·exact .sl k off len cap b base z n e (by rw [hb k ‹_›];exact h1) h2 h3 h4 h5
 | esl k off a i h=>
   simp only [V.kill]
   split
   ·exact .pure _ _ (.any _)
   ·exact .esl k off a i (by rw [hb k ‹_›];exact h)
 | ptr k i j b base z n e h1 h2=>
   simp only [V.kill]
   split
   ·exact .pure _ _ (.any _)
   ·exact .ptr k i j b base z n e (by rw [hb k ‹_›];exact h1) h2
 | it k b base z h1=>
   simp only [V.kill]
   split
   ·exact .pure _ _ (.any _)
   ·exact .it k b base z (by rw [hb k ‹_›];exact h1)
 | agg vs l h1 h2 h3 ih=>
   simp only [V.kill]
   refine .agg vs _ (by rw [AQ,h1]) h2 ?_
   intro i v c hv hc
   obtain ⟨x,hx,rfl⟩:=Bj id l i c hc
   exact ih i v x hv hx
 | fn f vs l h1 h2 ih=>
   simp only [V.kill]
   refine .fn f vs _ (by rw [AQ,h1]) ?_
   intro i v c hv hc
   obtain ⟨x,hx,rfl⟩:=Bj id l i c hc
   exact ih i v x hv hx
 | tup vs l h1 h2 ih=>
   simp only [V.kill]
   refine .tup vs _ (by rw [AQ,h1]) ?_
   intro i v c hv hc
   obtain ⟨x,hx,rfl⟩:=Bj id l i c hc
   exact ih i v x hv hx
section inv
variable {w:World} {I:Nat→Prop} {bl:Nat→Option BI} {v:Value}
theorem Rep.inv_bool {b:Bool} (h:Rep w I bl v (.bool b)):v= .bool b:=by
 cases h with
 | pure v x h=>cases h;rfl
theorem Rep.inv_int {k:IntKind} {n:Int} (h:Rep w I bl v (.int k n)):v= .int k n:=by
 cases h with
 | pure v x h=>cases h;rfl
theorem Rep.inv_str {s:List UInt8} (h:Rep w I bl v (.str s)):∃t:ByteArray,v= .string t∧t.data.toList=s∧t.size≤maxLen:=by
 cases h with
 | pure v x h=>cases h;exact ⟨_,rfl,rfl,‹_›⟩
theorem Rep.inv_nils (h:Rep w I bl v .nils):v= .slice none 0 0:=by
 cases h with
 | pure v x h=>cases h;rfl
theorem Rep.inv_nilp (h:Rep w I bl v .nilp):v= .pointer none:=by
 cases h with
 | pure v x h=>cases h;rfl
theorem Rep.inv_nili (h:Rep w I bl v .nili):v= .nilIface:=by
 cases h with
 | pure v x h=>cases h;rfl
theorem Rep.inv_ifi {t:TypeId} {k:IntKind} {n:Int} (h:Rep w I bl v (.ifi t k n)):v= .iface t (.int k n):=by
 cases h with
 | pure v x h=>cases h;rfl
theorem Rep.inv_gp {g:Nat} (h:Rep w I bl v (.gp g)):v= .pointer (some ⟨g,0,none⟩):=by
 cases h with
 | pure v x h=>cases h;rfl
theorem Rep.inv_gsl {g n:Nat} (h:Rep w I bl v (.gsl g n)):v= .slice (some ⟨g,0,none⟩) n n∧n≤maxLen:=by
 cases h with
 | pure v x h=>cases h;exact ⟨rfl,‹_›⟩
theorem Rep.inv_ifx (h:Rep w I bl v .ifx):∃t u,v= .iface t u:=by
 cases h with
 | pure v x h=>cases h;exact ⟨_,_,rfl⟩
theorem Rep.inv_sl {id off len:Nat} (h:Rep w I bl v (.sl id off len)):(∃base z,bl id=some ⟨none,base,z⟩∧off=0∧len=0∧v= .slice none 0 0)∨
 (∃a i,bl id=some i∧len=0∧v= .slice (some a) 0 0)∨
 ∃cap b base z n e,bl id=some ⟨some b,base,z⟩∧w.shape? b=some (e,n)∧base+(off+cap)*z≤n∧len≤cap∧cap≤maxLen∧v= .slice (some ⟨b,base+off*z,none⟩) len cap:=by
 cases h with
 | pure v x h=>cases h
 | nsl id base z h=>exact .inl ⟨_,_,h,rfl,rfl,rfl⟩
 | esl id off a i h=>exact .inr (.inl ⟨_,_,h,rfl,rfl⟩)
 | sl id off len cap b base z n e h1 h2 h3 h4 h5=>exact .inr (.inr ⟨_,_,_,_,_,_,h1,h2,h3,h4,h5,rfl⟩)
theorem Rep.inv_ptr {id i j:Nat} (h:Rep w I bl v (.ptr id i j)):∃b base z n e,bl id=some ⟨some b,base,z⟩∧w.shape? b=some (e,n)∧v= .pointer (some ⟨b,base+i*z+j,none⟩):=by
 cases h with
 | pure v x h=>cases h
 | ptr id i j b base z n e h1 h2=>exact ⟨_,_,_,_,_,h1,h2,rfl⟩
theorem Rep.inv_it {id:Nat} (h:Rep w I bl v (.it id)):∃b base z,bl id=some ⟨some b,base,z⟩∧v=jY base b:=by
 cases h with
 | pure v x h=>cases h
 | it id b base z h1=>exact ⟨_,_,_,h1,rfl⟩
structure LstIs (w:World) (I:Nat→Prop) (v:Value) (l:List V):Prop where
 max:l.length≤maxLen
 is:(l=[]∧∃a cap,v= .slice a 0 cap)∨∃(b off cap z:Nat) (u:Nat→Nat→Value),I b∧l.length≤cap∧cap≤maxLen∧v= .slice (some ⟨b,off,none⟩) l.length cap∧
  (∀(i:Nat) (x:V),l[i]?=some x→x.cells.length=z)∧(∀i j,i < l.length→j < z→w.cell? ⟨b,off+i*z+j,none⟩=some (u i j))∧(∀i j,(u i j).oneCell'=true)∧
  (∀(i:Nat) (x:V) (j:Nat) (c:V),l[i]?=some x→x.cells[j]?=some c→Pr w I (u i j) c)
theorem Rep.inv_lst {l:List V} (h:Rep w I bl v (.lst l)):LstIs w I v l:=by
 cases h with
 | pure v x h=>
   cases h with
   | lnil a cap=>exact ⟨by simp [maxLen],.inl ⟨rfl,_,_,rfl⟩⟩
   | lst b off cap z l u h1 h2 h3 h4 h5 h6 h7=>exact ⟨by omega,.inr ⟨b,off,cap,z,u,h1,h2,h3,rfl,h4,h5,h6,h7⟩⟩
theorem Rep.inv_agg {l:List V} (h:Rep w I bl v (.agg l)):∃vs:List Value,v= .agg vs.toArray∧vs.length=l.length∧(∀v:Value,v∈vs→v.oneCell'=true)∧∀(i:Nat) (v:Value) (c:V),vs[i]?=some v→l[i]?=some c→Rep w I bl v c:=by
 cases h with
 | pure v x h=>
   cases h with
   | agg vs l h1 h2 h3=>exact ⟨vs,rfl,h1,h2,fun i v c hv hc=>.pure _ _ (h3 i v c hv hc)⟩
 | agg vs l h1 h2 h3=>exact ⟨vs,rfl,h1,h2,h3⟩
theorem Rep.inv_fn {f:FuncId} {l:List V} (h:Rep w I bl v (.fn f l)):∃vs:List Value,v= .func (.func f) #[] vs.toArray∧vs.length=l.length∧∀(i:Nat) (v:Value) (c:V),vs[i]?=some v→l[i]?=some c→Rep w I bl v c:=by
 cases h with
 | pure v x h=>
   cases h with
   | fn f vs l h1 h2=>exact ⟨vs,rfl,h1,fun i v c hv hc=>.pure _ _ (h2 i v c hv hc)⟩
 | fn f vs l h1 h2=>exact ⟨vs,rfl,h1,h2⟩
theorem Rep.inv_tup {l:List V} (h:Rep w I bl v (.tup l)):∃vs:List Value,v= .tuple vs.toArray∧vs.length=l.length∧∀(i:Nat) (v:Value) (c:V),vs[i]?=some v→l[i]?=some c→Rep w I bl v c:=by
 cases h with
 | pure v x h=>
   cases h with
   | tup vs l h1 h2=>exact ⟨vs,rfl,h1,fun i v c hv hc=>.pure _ _ (h2 i v c hv hc)⟩
 | tup vs l h1 h2=>exact ⟨vs,rfl,h1,h2⟩
theorem Rep.inv_rp {l:List V} (h:Rep w I bl v (.rp l)):∃(b off:Nat) (u:Nat→Value),I b∧v= .pointer (some ⟨b,off,none⟩)∧(∀j,j < l.length→w.cell? ⟨b,off+j,none⟩=some (u j))∧(∀j,(u j).oneCell'=true)∧
 ∀(j:Nat) (c:V),l[j]?=some c→Pr w I (u j) c:=by
 cases h with
 | pure v x h=>
   cases h with
   | rp b off l u h1 h2 h3 h4=>exact ⟨b,off,u,h1,rfl,h2,h3,h4⟩
end inv
inductive Ob where
 | row (z:Nat) (els:List V)
 | iter (s:List UInt8) (pos:Nat)
 | bld (T:TypeId) (y:Option (Nat×Nat))
 | buf (U:TypeId) (s:List UInt8)
 | hid (vs:List Value) (l:List V)
 | mp (es:List (Value×Value))
def yV:Option (Nat×Nat)→V
 | none=>.any
 | some (_,0)=>.nils
 | some (q,n+1)=>.sl q 0 (n+1)
def Uv (id:Nat):Option (Nat×Nat)→Option (Nat×Nat)
 | none=>none
 | some (q,n)=>if q=id then none else some (q,n)
structure St where
 env:List V
 heap:List (Option Ob)
structure Ctx where
 P:Program
 W0:World
 E:Nat→Prop
 I0:Nat→Prop
structure Kept (E:Nat→Prop) (w w':World):Prop where
 os:w'.os=w.os
 tape:w'.tape=w.tape
 output:w'.output=w.output
 size:w.heap.size≤w'.heap.size
 block:∀k,k < w.heap.size→¬E k→w'.heap[k]?=w.heap[k]?
 shape:∀b s,w.shape? b=some s→w'.shape? b=some s
theorem Kept.refl (E:Nat→Prop) (w:World):Kept E w w:=⟨rfl,rfl,rfl,Nat.le_refl _,fun _ _ _=>rfl,fun _ _ h=>h⟩
theorem Kept.trans {E:Nat→Prop} {a b c:World} (h:Kept E a b) (k:Kept E b c):Kept E a c:=
 ⟨k.os.trans h.os,k.tape.trans h.tape,k.output.trans h.output,Nat.le_trans h.size k.size,fun i hi he=>(k.block i (Nat.lt_of_lt_of_le hi h.size) he).trans (h.block i hi he),fun b s hs=>k.shape b s (h.shape b s hs)⟩
def Thaw (z:Nat) (fz:Nat×Nat) (n:Nat):Prop:=fz=(0,0)∨(z=1∧n≤fz.1)
def CellsAt (z:Nat) (w:World) (b:Nat) (cur:Array Value) (e:TypeId):Prop:=∃fz,Thaw z fz cur.size∧w.heap[b]?=some (.cells cur e fz)
theorem CellsAt.of {z:Nat} {w:World} {b:Nat} {cur:Array Value} {e:TypeId} (h:w.heap[b]?=some (.cells cur e (0,0))):CellsAt z w b cur e:=⟨(0,0),.inl rfl,h⟩
theorem CellsAt.heap {z:Nat} {w w':World} {b:Nat} {cur:Array Value} {e:TypeId} (h:CellsAt z w b cur e) (hw:w'.heap[b]?=w.heap[b]?):CellsAt z w' b cur e:=by
 obtain ⟨fz,h1,h2⟩:=h
 exact ⟨fz,h1,hw.trans h2⟩
theorem CellsAt.cell {z:Nat} {w:World} {b j:Nat} {cur:Array Value} {e:TypeId} (h:CellsAt z w b cur e):w.cell? ⟨b,j,none⟩=cur[j]?:=by
 obtain ⟨fz,h1,h2⟩:=h
 exact cell_of_row w b _ cur e fz h2
theorem CellsAt.shape {z:Nat} {w:World} {b:Nat} {cur:Array Value} {e:TypeId} (h:CellsAt z w b cur e):w.shape? b=some (e,cur.size):=by
 obtain ⟨fz,h1,h2⟩:=h
 simp [World.shape?,h2]
theorem CellsAt.setRow {z:Nat} {w:World} {b:Nat} {cur cur':Array Value} {e:TypeId} (h:CellsAt z w b cur e) (hs:cur'.size=cur.size):CellsAt z (w.setRow b cur') b cur' e:=by
 obtain ⟨fz,h1,h2⟩:=h
 exact ⟨fz,by rw [hs];exact h1,setRow_heap w b cur cur' e fz h2⟩
theorem Thaw.free {z:Nat} {w:World} {g q:Nat} {cur:Array Value} {t:TypeId} {fz:Nat×Nat} (hz:Thaw z fz cur.size) (hg:w.heap[g]?=some (.cells cur t fz)) (hq:q < cur.size):w.frozen? ⟨g,q,none⟩=false:=by
 simp only [World.frozen?,hg]
 rcases hz with rfl|hz
 ·simp
 ·have hz:=hz.2
  have:¬fz.1≤q:=by omega
  simp [this]
theorem Sq {z:Nat} {P:Program} {w:World} {g q:Nat} {cur:Array Value} {t:TypeId} {fz:Nat×Nat} {v:Value} (hg:w.heap[g]?=some (.cells cur t fz)) (hz:Thaw z fz cur.size) (hq:q < cur.size) (h1:v.oneCell'=true):
 (store ⟨g,q,none⟩ v).run P w= .ok () (w.setRow g (cur.setIfInBounds q v)):=by
 rw [run_store P w _ v _ h1,show w.cell? ⟨g,q,none⟩=some cur[q] from by rw [cell_of_row w g _ cur t fz hg];simp [hq]]
 simp [hz.free hg hq,setCell_eq_setRow w g q cur t fz v hg]
theorem CL {z:Nat} {P:Program} (g o:Nat) (t:TypeId) (fz:Nat×Nat) (vs:List Value):∀(i:Nat) (cur:Array Value) (w:World),w.heap[g]?=some (.cells cur t fz)→Thaw z fz cur.size→o+i+vs.length≤cur.size→(∀v∈vs,v.oneCell'=true)→
 (storeCells ⟨g,o,none⟩ vs i).run P w= .ok () (w.setRow g (cur.toList.take (o+i)++vs++cur.toList.drop (o+i+vs.length)).toArray):=by
 induction vs with
 | nil=>
   intro i cur w hg _ _ _
   have e:(cur.toList.take (o+i)++[]++cur.toList.drop (o+i+([]:List Value).length)).toArray=cur:=by simp
   rw [e,setRow_self w g cur t fz hg]
   rfl
 | cons v rest ih=>
   intro i cur w hg hz hl h1
   rw [List.length_cons] at hl
   have hq:o+i < cur.size:=by omega
   have hst:=Sq (P:=P) hg hz hq (h1 v List.mem_cons_self)
   have hsz:(cur.setIfInBounds (o+i) v).size=cur.size:=Array.size_setIfInBounds
   have h2:=ih (i+1) (cur.setIfInBounds (o+i) v) (w.setRow g (cur.setIfInBounds (o+i) v)) (setRow_heap w g cur _ t _ hg) (by rw [hsz];exact hz) (by rw [hsz];omega) (fun x hx=>h1 x (List.mem_cons_of_mem _ hx))
   have hseg:=list_seg_step cur.toList (o+i) v rest (by rw [Array.length_toList];omega)
   rw [storeCells,Sem.run_bind,Addr.add_lit,hst,Result.andThen_ok,h2,setRow_setRow,Array.toList_setIfInBounds]
   congr 3
   first|done|simpa [Nat.add_assoc] using hseg
def ObRep (w:World) (I:Nat→Prop) (bl:Nat→Option BI) (id:Nat):Ob→Prop
 | .row z els=>∃bi,bl id=some bi∧bi.z=z∧(∀(i:Nat) (x:V),els[i]?=some x→x.cells.length=z)∧
    match bi.blk with
    | none=>els=[]
    | some b=>∃cur e,CellsAt z w b cur e∧bi.base+els.length*z≤cur.size∧
       ∀(i:Nat) (x:V) (j:Nat) (c:V),els[i]?=some x→x.cells[j]?=some c→∃u,cur[bi.base+i*z+j]?=some u∧u.oneCell'=true∧Rep w I bl u c
 | .iter s pos=>∃(b _base z:Nat) (t:ByteArray),bl id=some ⟨some b,0,z⟩∧w.heap[b]?=some (.stringIter t pos)∧t.data.toList=s∧t.size≤maxLen
 | .mp es=>∃(b _base z:Nat) (t:Array MapEntry×Nat),bl id=some ⟨some b,1,z⟩∧w.heap[b]?=some (.map t.1 t.2)∧t.1.toList.map (fun e=>(e.key,e.val))=es∧True
 | .bld T y=>∃b p v,bl id=some ⟨some b,0,2⟩∧w.heap[b]?=some (.cells #[p,v] T (0,0))∧(p= .pointer none∨p= .pointer (some ⟨b,0,none⟩))∧v.oneCell'=true∧Rep w I bl v (yV y)
 | .buf U s=>∃blk,bl id=some ⟨blk,0,1⟩∧match blk with
    | none=>s=[]
    | some g=>∃cur,w.heap[g]?=some (.cells cur U (0,0))∧s.length≤cur.size∧∀(i:Nat) (x:UInt8),s[i]?=some x→cur[i]?=some (.int .u8 x.toNat)
 | .hid vs l=>bl id=none∧vs.length=l.length∧∀(i:Nat) (v:Value) (x:V),vs[i]?=some v→l[i]?=some x→Rep w I bl v x
structure HeapRep (C:Ctx) (h:List (Option Ob)) (w:World) (I:Nat→Prop) (bl:Nat→Option BI):Prop where
 obj:∀id o,h[id]?=some (some o)→ObRep w I bl id o
 live:∀id i,bl id=some i→∃o,h[id]?=some (some o)
 apart:∀id id' i i' b,bl id=some i→bl id'=some i'→i.blk=some b→i'.blk=some b→id=id'
 own:∀id i b,bl id=some i→i.blk=some b→b < w.heap.size∧¬I b∧(C.E b∨C.W0.heap.size≤b)
 imm:∀k,I k→k < w.heap.size∧(C.I0 k∨C.E k∨C.W0.heap.size≤k)
 kept:Kept C.E C.W0 w
def EnvRep (env:List V) (a:Array Value) (w:World) (I:Nat→Prop) (bl:Nat→Option BI):Prop:=
 env.length=a.size∧∀(i:Nat) (v:Value) (x:V),a[i]?=some v→env[i]?=some x→Rep w I bl v x
def IA (C:Ctx) (σ:St) (xs:List V) (a:Act) (w:World) (vs:List Value):Prop:=
 ∃(I:Nat→Prop) (bl:Nat→Option BI),a.defers=[]∧EnvRep σ.env a.tmps w I bl∧
   (xs.length=vs.length∧∀(i:Nat) (v:Value) (x:V),vs[i]?=some v→xs[i]?=some x→Rep w I bl v x)∧HeapRep C σ.heap w I bl
def Rel (C:Ctx) (σ:St) (a:Act) (w:World):Prop:=IA C σ [] a w []
def Up (C:Ctx) (T:St→Prop) (σ:St):Prop:=∀a w,Rel C σ a w→∃σ',T σ'∧Rel C σ' a w
theorem BM {C:Ctx} {T:St→Prop} {σ:St} (h:T σ):Up C T σ:=fun _ _ hr=>⟨σ,h,hr⟩
theorem Uw {C:Ctx} {T T':St→Prop} {σ:St} (h:Up C T σ) (ht:∀σ,T σ→T' σ):Up C T' σ:=fun a w hr=>let ⟨σ',h1,h2⟩:=h a w hr;⟨σ',ht _ h1,h2⟩
theorem BS {C:Ctx} {T:St→Prop} {σ σ':St} (hr:∀a w,Rel C σ a w→Rel C σ' a w) (h:Up C T σ'):Up C T σ:=fun a w h1=>h a w (hr a w h1)
def PP (C:Ctx) (c:Code) (Q:Exit→St→Prop) (σ:St):Prop:=
 ∀a w,Rel C σ a w→c.wp C.P (fun e a' w'=>∃σ',Q e σ'∧Rel C σ' a' w') a w
def iD (k:St→Prop) (Q:Exit→St→Prop):Exit→St→Prop
 | .normal,σ=>k σ
 | e,σ=>Q e σ
def kJ (id:Nat) (Q:Exit→St→Prop):Exit→St→Prop
 | .exit id',σ=>if id'=id then Q .normal σ else Q (.exit id') σ
 | e,σ=>Q e σ
theorem Qn (id id':Nat) (Q:Exit→St→Prop) (σ:St):kJ id Q (.exit id') σ=if id'=id then Q .normal σ else Q (.exit id') σ:=rfl
section rules
variable {C:Ctx} {Q:Exit→St→Prop} {σ:St}
theorem X2 (h:Q .normal σ):PP C .skip Q σ:=fun _ _ hr=>wp_skip ⟨σ,h,hr⟩
theorem X3 {id:Nat} (h:Q (.exit id) σ):PP C (.exit id) Q σ:=fun _ _ hr=>wp_exit ⟨σ,h,hr⟩
theorem bJ (h:Q .ret σ):PP C .ret Q σ:=fun _ _ hr=>wp_ret ⟨σ,h,hr⟩
theorem Ix {c:Code} {Q':Exit→St→Prop} (h:PP C c Q σ) (hq:∀e σ,Q e σ→Q' e σ):PP C c Q' σ:=
 fun a w hr=>wp_mono (h a w hr) fun _ _ _ ⟨σ',h1,h2⟩=>⟨σ',hq _ _ h1,h2⟩
theorem bK {x y:Code} (h:PP C x (iD (PP C y Q) Q) σ):PP C (.seq x y) Q σ:=by
 intro a w hr
 refine wp_seq (wp_mono (h a w hr) ?_)
 rintro e a' w' ⟨σ',h1,h2⟩
 cases e with
 | normal=>exact h1 a' w' h2
 | exit id=>exact ⟨σ',h1,h2⟩
 | goto l=>exact ⟨σ',h1,h2⟩
 | ret=>exact ⟨σ',h1,h2⟩
 | panic ch=>exact ⟨σ',h1,h2⟩
 | outgrown=>exact ⟨σ',h1,h2⟩
theorem WA {id:Nat} {c:Code} (h:PP C c (kJ id Q) σ):PP C (.block id c) Q σ:=by
 intro a w hr
 refine wp_block (wp_mono (h a w hr) ?_)
 rintro e a' w' ⟨σ',h1,h2⟩
 cases e with
 | normal=>exact ⟨σ',h1,h2⟩
 | exit id'=>
   simp only [Qn] at h1
   simp only [Exit.inBlock]
   split at h1<;>rename_i he
   ·rw [if_pos he];exact ⟨σ',h1,h2⟩
   ·rw [if_neg he];exact ⟨σ',h1,h2⟩
 | goto l=>exact ⟨σ',h1,h2⟩
 | ret=>exact ⟨σ',h1,h2⟩
 | panic ch=>exact ⟨σ',h1,h2⟩
 | outgrown=>exact ⟨σ',h1,h2⟩
theorem Qo {P:Program} {Q:Exit→Act→World→Prop} {a:Act} {w:World} {c:Code} (J:Nat→Act→World→Prop) (n0:Nat) (h0:J n0 a w)
 (round:∀n a w,J n a w→c.wp P (Exit.then (fun a' w'=>∃n',n' < n∧J n' a' w') Q) a w):(Code.loop c).wp P Q a w:=by
 intro b k cs
 have key:∀n a w,J n a w→
  ∃e a' w',Q e a' w'∧Arrives P (lone (b.at a (.code c::.inLoop c::k)) cs w) b k cs e a' w':=by
  intro n
  induction n using Nat.strongRecOn with
  | _ n ih=>
    intro a w hI
    obtain ⟨e,a1,w1,hq,harr⟩:=round n a w hI b (.inLoop c::k) cs
    cases e with
    | normal=>
      obtain ⟨n',hlt,hI1⟩:=hq
      obtain ⟨e2,a2,w2,hq2,harr2⟩:=ih n' hlt a1 w1 hI1
      exact ⟨e2,a2,w2,hq2,.of_steps (Steps.trans harr (.one step_inLoop)) harr2⟩
    | exit id=>exact ⟨_,a1,w1,hq,.pass (x:=.inLoop c) rfl (fun _ _=>.inl (by simp)) harr⟩
    | goto l=>exact ⟨_,a1,w1,hq,.pass (x:=.inLoop c) rfl (fun _ _=>.inl (by simp)) harr⟩
    | ret=>exact ⟨_,a1,w1,hq,.pass (x:=.inLoop c) rfl (fun _ _=>.inl (by simp)) harr⟩
    | panic ch=>exact ⟨_,a1,w1,hq,.pass (x:=.inLoop c) rfl (fun _ _=>.inl (by simp)) harr⟩
    | outgrown=>exact ⟨_,a1,w1,hq,.pass (x:=.inLoop c) rfl (fun _ _=>.inl (by simp)) harr⟩
 obtain ⟨e,a',w',hq,harr⟩:=key _ a w h0
 exact ⟨e,a',w',hq,.of_steps (.one step_loop) harr⟩
theorem X4 {c:Operand} {x y:Code} (t:Bool) (hc:∀a w,Rel C σ a w→a.eval c= .bool t) (ht:t=true→PP C x Q σ) (hf:t=false→PP C y Q σ):PP C (.cond c x y) Q σ:=by
 intro a w hr
 refine wp_cond_split (hc a w hr) (fun h=>ht h a w hr) (fun h=>hf h a w hr)
end rules
end
section
open Go.RowKit
def V.ofCell:Value→V
 | .bool b=>.bool b
 | .int k n=>.int k n
 | .string s=>if s.size≤maxLen then .str s.data.toList else .any
 | .slice none 0 0=>.nils
 | .pointer none=>.nilp
 | .nilIface=>.nili
 | _=>.any
def V.ofVal:Value→V
 | .agg cs=>if cs.toList.all (·.oneCell') then .agg (cs.toList.map V.ofCell) else .any
 | .func (.func f) first cs=>if first.toList.isEmpty&&cs.toList.isEmpty then .fn f [] else .any
 | v=>V.ofCell v
def St.val (σ:St):Operand→V
 | .tmp t=>σ.env.getD t .any
 | .const v=>V.ofVal v
 | .global g=>.gp g
 | .func f=>.fn f []
def St.put (σ:St) (d:Option Tmp) (x:V):St:=
 match d with
 | some d=>{ σ with env:=σ.env.set d x}
 | none=>σ
theorem OC {w:World} {I:Nat→Prop} (v:Value):Pr w I v (V.ofCell v):=by
 unfold V.ofCell
 split
 ·exact .bool _
 ·exact .int _ _
 ·split
  ·exact .str _ ‹_›
  ·exact .any _
 ·exact .nils
 ·exact .nilp
 ·exact .nili
 ·exact .any _
theorem Qp {w:World} {I:Nat→Prop} (v:Value):Pr w I v (V.ofVal v):=by
 unfold V.ofVal
 split
 ·rename_i cs
  split
  ·rename_i h
   refine .agg cs.toList _ (by simp) (fun v hv=>List.all_eq_true.1 h v hv) ?_
   intro i v c hv hc
   simp only [List.getElem?_map,hv,Option.map_some,Option.some.injEq] at hc
   subst hc
   exact OC v
  ·exact .any _
 ·rename_i f first cs
  split
  ·rename_i h
   simp only [Bool.and_eq_true,List.isEmpty_iff,Array.toList_eq_nil_iff] at h
   obtain ⟨rfl,rfl⟩:=h
   exact Pr.fn f [] [] rfl (fun i v c hv hc=>by simp at hv)
  ·exact .any _
 ·exact OC v
structure RP (C:Ctx) (σ:St) (a:Act) (w:World) (I:Nat→Prop) (bl:Nat→Option BI):Prop where
 defers:a.defers=[]
 env:EnvRep σ.env a.tmps w I bl
 heap:HeapRep C σ.heap w I bl
theorem Rel.parts {C:Ctx} {σ:St} {a:Act} {w:World} (h:Rel C σ a w):∃I bl,RP C σ a w I bl:=by
 obtain ⟨I,bl,h1,h2,_,h4⟩:=h
 exact ⟨I,bl,h1,h2,h4⟩
theorem RP.rel {C:Ctx} {σ:St} {a:Act} {w:World} {I:Nat→Prop} {bl:Nat→Option BI} (h:RP C σ a w I bl):Rel C σ a w:=
 ⟨I,bl,h.1,h.2,⟨rfl,fun i v x hv=>by simp at hv⟩,h.3⟩
theorem RP.relx {C:Ctx} {σ:St} {a:Act} {w:World} {I:Nat→Prop} {bl:Nat→Option BI} (h:RP C σ a w I bl) {v:Value} {x:V} (hx:Rep w I bl v x):IA C σ [x] a w [v]:=
 ⟨I,bl,h.1,h.2,⟨rfl,fun i v' x' hv hx'=>by
   cases i with
   | zero=>simp at hv hx';subst hv;subst hx';exact hx
   | succ i=>simp at hv⟩,h.3⟩
theorem RP.val {C:Ctx} {σ:St} {a:Act} {w:World} {I:Nat→Prop} {bl:Nat→Option BI} (h:RP C σ a w I bl) (o:Operand):Rep w I bl (a.eval o) (σ.val o):=by
 cases o with
 | tmp t=>
   show Rep w I bl (a.tmps.getD t undef) (σ.env.getD t .any)
   by_cases ht:t < a.tmps.size
   ·have ht':t < σ.env.length:=by rw [h.env.1];exact ht
    refine h.env.2 t _ _ ?_ ?_
    ·simp [Array.getD,ht]
    ·simp [List.getD,ht']
   ·have ht':¬t < σ.env.length:=by rw [h.env.1];exact ht
    have e:σ.env.getD t .any= .any:=by simp [List.getD,List.getElem?_eq_none (Nat.le_of_not_lt ht')]
    rw [e]
    exact .pure _ _ (.any _)
 | const v=>exact .pure _ _ (Qp v)
 | global g=>exact .pure _ _ (.gp g)
 | func f=>exact .pure _ _ (Pr.fn f [] [] rfl (fun i v c hv hc=>by simp at hv))
theorem DI {C:Ctx} {σ:St} {a:Act} {w:World} {v:Value} {x:V} (d:Option Tmp) (h:IA C σ [x] a w [v]):Rel C (σ.put d x) (a.put d v) w:=by
 obtain ⟨I,bl,h1,h2,h3,h4⟩:=h
 have hx:Rep w I bl v x:=h3.2 0 v x rfl rfl
 refine ⟨I,bl,?_,?_,⟨rfl,fun i v x hv=>by simp at hv⟩,?_⟩
 ·cases d<;>exact h1
 ·cases d with
  | none=>exact h2
  | some d=>
    refine ⟨by simp [St.put,Act.put,h2.1],?_⟩
    intro i v' x' hv hx'
    simp only [Act.put,St.put] at hv hx'
    by_cases hi:d=i
    ·subst hi
     rw [List.getElem?_set_self'] at hx'
     rw [Array.getElem?_setIfInBounds] at hv
     by_cases hlt:d < a.tmps.size
     ·have hlt':d < σ.env.length:=by rw [h2.1];exact hlt
      simp [hlt] at hv
      simp [hlt'] at hx'
      subst hv;subst hx'
      exact hx
     ·simp [hlt] at hv
    ·rw [List.getElem?_set_ne hi] at hx'
     rw [Array.getElem?_setIfInBounds,if_neg hi] at hv
     exact h2.2 i v' x' hv hx'
 ·cases d<;>exact h4
def Bc (C:Ctx) (o:Oper) (σ:St) (K:V→St→Prop):Prop:=
 ∀a w,Rel C σ a w→∀(next:Act→World→Prop) (Q:Exit→Act→World→Prop),(∀v w' r σ',K r σ'→IA C σ' [r] a w' [v]→next (a.put o.dst v) w')→
  o.upon C.P a next Q ((execOp a.eval o).run C.P w)
theorem Ak {C:Ctx} {o:Oper} {σ:St} {K:V→St→Prop}
 (h:∀a w I bl,RP C σ a w I bl→∃v w' r σ',(execOp a.eval o).run C.P w= .ok (.value v) w'∧K r σ'∧IA C σ' [r] a w' [v]):Bc C o σ K:=by
 intro a w hr next Q hn
 obtain ⟨I,bl,hp⟩:=hr.parts
 obtain ⟨v,w',r,σ',h1,h2,h3⟩:=h a w I bl hp
 rw [h1]
 exact hn v w' r σ' h2 h3
theorem AS {C:Ctx} {o:Oper} {σ:St} {K:V→St→Prop} (r:V) (hk:K r σ)
 (h:∀a w I bl,RP C σ a w I bl→∃v,(execOp a.eval o).run C.P w= .ok (.value v) w∧Rep w I bl v r):Bc C o σ K:=
 Ak fun a w I bl hp=>let ⟨v,h1,h2⟩:=h a w I bl hp;⟨v,w,r,σ,h1,hk,hp.relx h2⟩
def X5 (d:Option Tmp) (K:St→Prop) (r:V) (σ:St):Prop:=K (σ.put d r)
def Ct (ops:Array Oper) (σ:St) (j:Nat):V:=match (ops[j]?).bind (·.dst) with|some t=>σ.env.getD t .any|none=>.any
theorem Lj {C:Ctx} {σ:St} {a:Act} {w:World} {ops:Array Oper} {j:Nat} {l:List V} (h:Rel C σ a w) (hg:Ct ops σ j= .tup l):yielded ops a.tmps j=none:=by
 obtain ⟨I,bl,hp⟩:=h.parts
 unfold Ct at hg
 unfold yielded
 cases hd:(ops[j]?).bind (·.dst) with
 | none=>simp [hd] at hg
 | some t=>
   simp only [hd] at hg
   have hv:=hp.val (.tmp t)
   simp only [Act.eval,St.val,hg] at hv
   obtain ⟨vs,hv,_⟩:=hv.inv_tup
   by_cases ht:t < a.tmps.size
   ·simp [Array.getD,ht] at hv
    simp [ht,hv]
   ·simp [ht]
theorem Jw {w:World} {I:Nat→Prop} {bl:Nat→Option BI}:Rep w I bl undef (.tup []):=
 .tup [] [] rfl (fun i v c h=>by simp at h)
theorem Lk {C:Ctx} {σ:St} {a:Act} {w:World} {ops:Array Oper} {j:Nat} {b:Bool} (h:Rel C σ a w) (hg:Ct ops σ j= .bool b):yielded ops a.tmps j=some b:=by
 obtain ⟨I,bl,hp⟩:=h.parts
 unfold Ct at hg
 unfold yielded
 cases hd:(ops[j]?).bind (·.dst) with
 | none=>simp [hd] at hg
 | some t=>
   simp only [hd] at hg
   have hv:=hp.val (.tmp t)
   simp only [Act.eval,St.val,hg] at hv
   have:a.tmps.getD t undef= .bool b:=hv.inv_bool
   by_cases ht:t < a.tmps.size
   ·simp [Array.getD,ht] at this
    simp [ht,this]
   ·simp [Array.getD,ht,undef] at this
def LA (C:Ctx) (step:Oper→St→(V→St→Prop)→Prop) (ops:Array Oper) (K:St→Prop):List Oper→St→Prop
 | [],σ=>K σ
 | o::rest,σ=>
   match o.guard with
   | none=>step o σ (X5 o.dst (LA C step ops K rest))
   | some (j,want)=>
     match Ct ops σ j with
     | .bool b=>(b=want→step o σ (X5 o.dst (LA C step ops K rest)))∧(b≠want→LA C step ops K rest (σ.put o.dst (.tup [])))
     | .tup _=>LA C step ops K rest (σ.put o.dst (.tup []))
     | _=>False
theorem Ll {C:Ctx} {step:Oper→St→(V→St→Prop)→Prop} (hs:∀o σ K,step o σ K→Bc C o σ K) {ops:Array Oper} {K:St→Prop} {Q:Exit→Act→World→Prop} (hQ:∀σ a w,K σ→Rel C σ a w→Q .normal a w):
 ∀(l:List Oper) (k:Nat),(∀j,ops[k+j]?=l[j]?)→∀(σ:St) (a:Act) (w:World),LA C step ops K l σ→Rel C σ a w→wpOps C.P ops Q (List.range' k l.length) a w
 | [],k,hl,σ,a,w,h,hr=>hQ σ a w h hr
 | o::rest,k,hl,σ,a,w,h,hr=>by
   have ho:ops[k]?=some o:=by simpa using hl 0
   have hrest:∀j,ops[k+1+j]?=rest[j]?:=fun j=>by have:=hl (j+1);simpa [Nat.add_assoc,Nat.add_comm 1 j] using this
   have ih:=Ll hs hQ rest (k+1) hrest
   simp only [List.length_cons,List.range'_succ,wpOps,ho]
   have hstep:step o σ (X5 o.dst (LA C step ops K rest))→o.wp C.P a w (wpOps C.P ops Q (List.range' (k+1) rest.length)) Q:=by
    intro h
    refine hs _ _ _ h a w hr _ _ ?_
    intro v w' r σ' h1 h2
    exact ih (σ'.put o.dst r) _ _ h1 (DI o.dst h2)
   have hskip:LA C step ops K rest (σ.put o.dst (.tup []))→wpOps C.P ops Q (List.range' (k+1) rest.length) (a.put o.dst undef) w:=by
    intro h
    obtain ⟨I,bl,hp⟩:=hr.parts
    exact ih _ _ _ h (DI o.dst (hp.relx Jw))
   simp only [LA] at h
   cases hg:o.guard with
   | none=>
     simp only [hg] at h
     have hw:Region.wanted o (yielded ops a.tmps)=true:=by simp [Region.wanted,hg]
     rw [if_pos hw]
     exact .inl (hstep h)
   | some jw=>
     obtain ⟨j,want⟩:=jw
     simp only [hg] at h
     split at h
     ·rename_i b hb
      have hy:=Lk hr hb
      by_cases he:b=want
      ·have hw:Region.wanted o (yielded ops a.tmps)=true:=by simp [Region.wanted,hg,hy,he]
       rw [if_pos hw]
       exact .inl (hstep (h.1 he))
      ·have hw:Region.wanted o (yielded ops a.tmps)=false:=by simp [Region.wanted,hg,hy,he]
       rw [if_neg (by simp [hw])]
       exact hskip (h.2 he)
     ·rename_i l hb
      have hy:=Lj hr hb
      have hw:Region.wanted o (yielded ops a.tmps)=false:=by simp [Region.wanted,hg,hy]
      rw [if_neg (by simp [hw])]
      exact hskip h
     ·exact h.elim
end
end Go.Proofs.YtkaiffheakalmaaGreatDoor
