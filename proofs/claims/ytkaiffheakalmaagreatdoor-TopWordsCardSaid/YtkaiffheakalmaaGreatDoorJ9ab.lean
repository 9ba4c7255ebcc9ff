/- Joined. No conditions. -/
import Derived.Test.YtkaiffheakalmaaGreatDoorJ9aa
set_option linter.unusedSimpArgs false
set_option linter.unusedVariables false
set_option maxRecDepth 100000
namespace Go.Proofs.YtkaiffheakalmaaGreatDoor
open Go.RowKit
def TI (P:Program) (t:TypeId):Option (Bool×Nat):=
 match P.underlying t,P.info? t with
 | some d,some i=>some ((match d with|.struct _|.array _ _=>true|_=>false),i.size)
 | _,_=>none
def EI (P:Program) (t:TypeId):Option (TypeId×Nat):=
 match P.underlying t with
 | some (.slice e)=>(TI P e).map fun x=>(e,x.2)
 | _=>none
def AI (P:Program) (t:TypeId):Option (Nat×Bool×Nat):=
 match P.underlying t with
 | some (.array n e)=>(TI P e).map fun x=>(n,x)
 | _=>none
def FI (P:Program) (s:TypeId) (f:Nat):Option (Nat×Bool×Nat):=
 match P.underlying s with
 | some (.struct fs)=>match fs[f]? with
   | some fd=>match TI P fd.type with
     | some x=>if x.2=0 then none else some (fd.offset,x)
     | none=>none
   | none=>none
 | _=>none
def X6 (P:Program) (t:TypeId):Bool:=match P.underlying t with|some .bool=>true|_=>false
def ET (P:Program) (t:TypeId):Bool:=match P.underlying t with|some .string=>true|_=>false
def Fc (P:Program) (t:TypeId):Bool:=match P.underlying t with|some (.slice _)=>true|_=>false
def PQ (P:Program) (t:TypeId):Option IntKind:=match P.underlying t with|some (.int k)=>some k|_=>none
def Sr (b:Bool) (cs:List V):V:=if b then .agg cs else cs.headD .any
theorem Jx {P:Program} {t:TypeId} {b:Bool} {n:Nat} (h:TI P t=some (b,n)) (w:World):(isAgg t).run P w= .ok b w:=by
 unfold TI at h
 split at h
 ·rename_i d i hd hi
  simp only [Option.some.injEq,Prod.mk.injEq] at h
  obtain ⟨rfl,rfl⟩:=h
  simp only [isAgg,Sem.run_bind,run_underlying hd,Result.andThen_ok]
  cases d<;>rfl
 ·simp at h
theorem Al {P:Program} {t:TypeId} {b:Bool} {n:Nat} (h:TI P t=some (b,n)) (w:World):(sizeOf t).run P w= .ok n w:=by
 unfold TI at h
 split at h
 ·rename_i d i hd hi
  simp only [Option.some.injEq,Prod.mk.injEq] at h
  obtain ⟨rfl,rfl⟩:=h
  simp [sizeOf,typeInfo,hi]
 ·simp at h
theorem C5 {P:Program} {t:TypeId} {b:Bool} {n:Nat} (h:TI P t=some (b,n)) (hb:b=false→n=1) (w:World) (blk off:Nat) (u:Nat→Value) (hc:∀j,j < n→w.cell? ⟨blk,off+j,none⟩=some (u j)):
 (Instr.loadAt t (.pointer (some ⟨blk,off,none⟩))).run P w= .ok (if b then .agg ((List.range n).map u).toArray else u 0) w:=by
 simp only [Instr.loadAt,Instr.sureAddr,Sem.run_bind,Sem.run_pure,Result.andThen_ok,loadVar,Jx h]
 cases b with
 | false=>
   obtain rfl:=hb rfl
   have:=hc 0 (by omega)
   simp only [Nat.add_zero] at this
   simp [this]
 | true=>
   have:=run_loadCells (P:=P) w ⟨blk,off,none⟩ n u (fun j hj=>by rw [Addr.add_lit];exact hc j hj)
   simp [Al h,this]
theorem LO {w:World} {I:Nat→Prop} {bl:Nat→Option BI} {b:Bool} {n:Nat} {u:Nat→Value} {cs:List V} (hn:cs.length=n) (hb:b=false→n=1) (h1:∀j,(u j).oneCell'=true) (hr:∀(j:Nat) (c:V),cs[j]?=some c→Rep w I bl (u j) c):
 Rep w I bl (if b then .agg ((List.range n).map u).toArray else u 0) (Sr b cs):=by
 cases b with
 | false=>
   obtain rfl:=hb rfl
   match cs,hn with
   | [c],_=>exact hr 0 c rfl
 | true=>
   refine .agg _ cs (by simp [hn]) (fun v hv=>by simp at hv;obtain ⟨j,_,rfl⟩:=hv;exact h1 j) ?_
   intro i v c hv hc
   have hi:i < n:=by
    have:=(List.getElem?_eq_some_iff.1 hc).1
    omega
   simp [hi] at hv
   subst hv
   exact hr i c hc
def St.row (σ:St) (id:Nat):Option (Nat×List V):=match σ.heap[id]? with|some (some (.row z els))=>some (z,els)|_=>none
theorem Dh {σ:St} {id z:Nat} {els:List V} (h:σ.row id=some (z,els)):σ.heap[id]?=some (some (.row z els)):=by
 unfold St.row at h
 split at h
 ·rename_i e
  simp only [Option.some.injEq,Prod.mk.injEq] at h
  obtain ⟨rfl,rfl⟩:=h
  exact e
 ·simp at h
theorem RP.objCell {C:Ctx} {σ:St} {a:Act} {w:World} {I:Nat→Prop} {bl:Nat→Option BI} (hp:RP C σ a w I bl) {id z b base z':Nat} {els:List V} (hrow:σ.row id=some (z,els)) (hbl:bl id=some ⟨some b,base,z'⟩):
 z'=z∧∀(i:Nat) (x:V) (j:Nat) (c:V),els[i]?=some x→x.cells[j]?=some c→∃u,w.cell? ⟨b,base+i*z+j,none⟩=some u∧u.oneCell'=true∧Rep w I bl u c:=by
 obtain ⟨bi,h1,h2,h3,h4⟩:=hp.heap.obj id _ (Dh hrow)
 rw [hbl] at h1
 simp only [Option.some.injEq] at h1
 subst h1
 simp only at h2 h4
 refine ⟨h2,?_⟩
 obtain ⟨cur,e,hg,hsz,hcell⟩:=h4
 intro i x j c hx hc
 obtain ⟨u,hu,h1,hr⟩:=hcell i x j c hx hc
 exact ⟨u,by rw [hg.cell];exact hu,h1,hr⟩
def Km (C:Ctx) (t:TypeId) (p:V) (K:V→St→Prop) (σ:St):Prop:=
 match TI C.P t with
 | some (b,n)=>(b=false→n=1)∧match p with
   | .rp l=>n≤l.length∧K (Sr b (l.take n)) σ
   | .ptr id i j=>match σ.row id with
     | some (_,els)=>∃x,els[i]?=some x∧j+n≤x.cells.length∧K (Sr b ((x.cells.drop j).take n)) σ
     | none=>False
   | _=>False
 | none=>False
theorem bL {C:Ctx} {o:Oper} {σ:St} {K:V→St→Prop} {t:TypeId} {x:Operand} (ho:o.op= .load t x) (h:Km C t (σ.val x) K σ):Bc C o σ K:=by
 unfold Km at h
 split at h
 ·rename_i b n hti
  obtain ⟨hb,h⟩:=h
  split at h
  ·rename_i l hl
   obtain ⟨hn,hk⟩:=h
   refine AS _ hk ?_
   intro a w I bl hp
   have hv:=hp.val x
   rw [hl] at hv
   obtain ⟨blk,off,u,hI,hv,hc,h1,hr⟩:=hv.inv_rp
   refine ⟨_,?_,LO (u:=u) (by simp;omega) hb h1 (fun j c hj=>.pure _ _ (hr j c ?_))⟩
   ·simp only [execOp,ho,hv]
    simp [C5 hti hb w blk off u (fun j hj=>hc j (by omega))]
   ·rw [List.getElem?_take] at hj
    split at hj
    ·exact hj
    ·simp at hj
  ·rename_i id i j hl
   split at h
   ·rename_i z els hrow
    obtain ⟨y,hy,hn,hk⟩:=h
    refine AS _ hk ?_
    intro a w I bl hp
    have hv:=hp.val x
    rw [hl] at hv
    obtain ⟨blk,base,z',m,e,hbl,_,hv⟩:=hv.inv_ptr
    obtain ⟨rfl,hcell⟩:=hp.objCell hrow hbl
    have hex:∀k,∃u,k < n→w.cell? ⟨blk,base+i*z'+j+k,none⟩=some u∧u.oneCell'=true∧∀c,(y.cells)[j+k]?=some c→Rep w I bl u c:=by
     intro k
     by_cases hk:k < n
     ·have hlt:j+k < y.cells.length:=by omega
      obtain ⟨u,h1,h2,h3⟩:=hcell i y (j+k) _ hy (List.getElem?_eq_getElem hlt)
      refine ⟨u,fun _=>⟨by rw [Nat.add_assoc _ j k];exact h1,h2,fun c hc=>?_⟩⟩
      rw [List.getElem?_eq_getElem hlt] at hc
      simp only [Option.some.injEq] at hc
      subst hc
      exact h3
     ·exact ⟨.bool true,fun h=>absurd h hk⟩
    obtain ⟨u,hu⟩:=Classical.axiomOfChoice hex
    let u':Nat→Value:=fun k=>if k < n then u k else .bool true
    refine ⟨_,?_,LO (u:=u') (by simp;omega) hb (fun k=>?_) (fun k c hc=>?_)⟩
    ·simp only [execOp,ho,hv]
     simp [C5 hti hb w blk (base+i*z'+j) u' (fun k hk=>by simp only [u',if_pos hk];exact (hu k hk).1)]
    ·simp only [u']
     split
     ·exact (hu k ‹_›).2.1
     ·rfl
    ·rw [List.getElem?_take] at hc
     split at hc
     ·rename_i hk
      simp only [u',if_pos hk]
      rw [List.getElem?_drop] at hc
      exact (hu k hk).2.2 c hc
     ·simp at hc
   ·exact h.elim
  ·exact h.elim
 ·exact h.elim
def EU (C:Ctx) (t:TypeId) (x i:V) (K:V→St→Prop) (σ:St):Prop:=
 match i with
 | .int _ n=>0≤n∧match x with
   | .lst l=>match EI C.P t with
     | some (_,z)=>∃y,l[n.toNat]?=some y∧y.cells.length=z∧K (.rp y.cells) σ
     | none=>False
   | .sl id off len=>match EI C.P t with
     | some (_,z)=>match σ.row id with
       | some (z',_)=>z=z'∧n.toNat < len∧K (.ptr id (off+n.toNat) 0) σ
       | none=>False
     | none=>False
   | .ptr id i j=>match AI C.P t with
     | some (m,_,z)=>n.toNat < m∧K (.ptr id i (j+n.toNat*z)) σ
     | none=>False
   | .rp l=>match AI C.P t with
     | some (m,_,z)=>n.toNat < m∧K (.rp (l.drop (n.toNat*z))) σ
     | none=>False
   | _=>False
 | _=>False
theorem Ev {P:Program} {t e:TypeId} {z:Nat} (h:EI P t=some (e,z)):P.underlying t=some (.slice e)∧∃b,TI P e=some (b,z):=by
 unfold EI at h
 split at h
 ·rename_i e' he
  cases ht:TI P e' with
  | none=>simp [ht] at h
  | some x=>
    simp [ht] at h
    obtain ⟨rfl,rfl⟩:=h
    exact ⟨he,x.1,by rw [ht]⟩
 ·simp at h
theorem PS {P:Program} {t:TypeId} {n z:Nat} {b:Bool} (h:AI P t=some (n,b,z)):∃e,P.underlying t=some (.array n e)∧TI P e=some (b,z):=by
 unfold AI at h
 split at h
 ·rename_i m e' he
  cases ht:TI P e' with
  | none=>simp [ht] at h
  | some x=>
    simp [ht] at h
    obtain ⟨rfl,rfl⟩:=h
    exact ⟨e',he,ht⟩
 ·simp at h
theorem Ux {P:Program} {s:TypeId} {f off n:Nat} {b:Bool} (h:FI P s f=some (off,b,n)):∃fs fd,P.underlying s=some (.struct fs)∧fs[f]?=some fd∧fd.offset=off∧TI P fd.type=some (b,n)∧n≠0:=by
 unfold FI at h
 split at h
 ·rename_i fs hs
  split at h
  ·rename_i fd hf
   split at h
   ·rename_i x ht
    split at h
    ·simp at h
    ·simp only [Option.some.injEq,Prod.mk.injEq] at h
     obtain ⟨rfl,rfl⟩:=h
     exact ⟨fs,fd,hs,hf,rfl,ht,‹_›⟩
   ·simp at h
  ·simp at h
 ·simp at h
theorem G4 {P:Program} {t e:TypeId} {z:Nat} (h:EI P t=some (e,z)) (b off len cap:Nat) (k:IntKind) (n:Int) (h0:0≤n) (hn:n.toNat < len) (w:World):
 (Instr.indexAt t (.slice (some ⟨b,off,none⟩) len cap) (.int k n)).run P w= .ok (.pointer (some ⟨b,off+n.toNat*z,none⟩)) w:=by
 obtain ⟨hu,bb,ht⟩:=Ev h
 have hl:0≤n∧n < (len:Int):=⟨h0,by omega⟩
 simp [Instr.indexAt,asIntOf,run_underlying hu,hl,Al ht,Addr.add_lit]
theorem Gt {P:Program} {t:TypeId} {m z:Nat} {bb:Bool} (h:AI P t=some (m,bb,z)) (b off:Nat) (k:IntKind) (n:Int) (h0:0≤n) (hn:n.toNat < m) (w:World):
 (Instr.indexAt t (.pointer (some ⟨b,off,none⟩)) (.int k n)).run P w= .ok (.pointer (some ⟨b,off+n.toNat*z,none⟩)) w:=by
 obtain ⟨e,hu,ht⟩:=PS h
 have hl:0≤n∧n < (m:Int):=⟨h0,by omega⟩
 simp [Instr.indexAt,Instr.sureAddr,asIntOf,run_underlying hu,hl,Al ht,Addr.add_lit]
theorem Lm {w:World} {I:Nat→Prop} {b off d:Nat} {l:List V} {u:Nat→Value} (hI:I b) (hc:∀j,j < l.length→w.cell? ⟨b,off+j,none⟩=some (u j)) (h1:∀j,(u j).oneCell'=true) (hr:∀(j:Nat) (c:V),l[j]?=some c→Pr w I (u j) c):
 Pr w I (.pointer (some ⟨b,off+d,none⟩)) (.rp (l.drop d)):=by
 refine .rp b (off+d) _ (fun j=>u (d+j)) hI (fun j hj=>?_) (fun j=>h1 _) (fun j c hc=>?_)
 ·rw [Nat.add_assoc]
  simp only [List.length_drop] at hj
  exact hc (d+j) (by omega)
 ·rw [List.getElem?_drop] at hc
  exact hr _ _ hc
theorem Ss {C:Ctx} {o:Oper} {σ:St} {K:V→St→Prop} {t:TypeId} {x i:Operand} (ho:o.op= .indexAddr t x i) (h:EU C t (σ.val x) (σ.val i) K σ):Bc C o σ K:=by
 unfold EU at h
 split at h
 ·rename_i k n hi
  obtain ⟨h0,h⟩:=h
  have hi':∀a w I bl,RP C σ a w I bl→a.eval i= .int k n:=fun a w I bl hp=>by have:=hp.val i;rw [hi] at this;exact this.inv_int
  split at h
  ·rename_i l hl
   split at h
   ·rename_i e z hei
    obtain ⟨y,hy,hz,hk⟩:=h
    refine AS _ hk ?_
    intro a w I bl hp
    have hv:=hp.val x
    rw [hl] at hv
    obtain ⟨hm,h⟩:=hv.inv_lst
    rcases h with ⟨rfl,_⟩|⟨b,off,cap,z',u,hI,h1,h2,hv,h4,h5,h6,h7⟩
    ·simp at hy
    ·have hlt:n.toNat < l.length:=(List.getElem?_eq_some_iff.1 hy).1
     have hz':z'=z:=by rw [←h4 _ _ hy];exact hz
     subst hz'
     refine ⟨_,by simp only [execOp,ho,hv,hi' a w I bl hp];simp [G4 hei b off _ cap k n h0 hlt w],.pure _ _ (.rp b _ _ (u n.toNat) hI (fun j hj=>h5 _ _ hlt (by omega)) (h6 _) (fun j c hc=>h7 _ _ _ _ hy hc))⟩
   ·exact h.elim
  ·rename_i id off len hl
   split at h
   ·rename_i e z hei
    split at h
    ·rename_i z' els hrow
     obtain ⟨rfl,hn,hk⟩:=h
     refine AS _ hk ?_
     intro a w I bl hp
     have hv:=hp.val x
     rw [hl] at hv
     rcases hv.inv_sl with ⟨_,_,_,_,rfl,_⟩|⟨_,_,_,rfl,_⟩|⟨cap,b,base,z',m,e',hbl,hs,hsz,hlc,hcm,hv⟩
     ·omega
     ·omega
     ·obtain ⟨rfl,_⟩:=hp.objCell hrow hbl
      refine ⟨.pointer (some ⟨b,base+off*z'+n.toNat*z',none⟩),by simp only [execOp,ho,hv,hi' a w I bl hp];simp [G4 hei b _ _ cap k n h0 hn w],?_⟩
      have:=Rep.ptr (I:=I) (bl:=bl) id (off+n.toNat) 0 b base z' m e' hbl hs
      rw [Nat.add_mul] at this
      simpa [Nat.add_assoc] using this
    ·exact h.elim
   ·exact h.elim
  ·rename_i id i0 j hl
   split at h
   ·rename_i m bb z hai
    obtain ⟨hn,hk⟩:=h
    refine AS _ hk ?_
    intro a w I bl hp
    have hv:=hp.val x
    rw [hl] at hv
    obtain ⟨b,base,z',m',e',hbl,hs,hv⟩:=hv.inv_ptr
    refine ⟨.pointer (some ⟨b,base+i0*z'+j+n.toNat*z,none⟩),by simp only [execOp,ho,hv,hi' a w I bl hp];simp [Gt hai b _ k n h0 hn w],?_⟩
    have:=Rep.ptr (I:=I) (bl:=bl) id i0 (j+n.toNat*z) b base z' m' e' hbl hs
    simpa [Nat.add_assoc] using this
   ·exact h.elim
  ·rename_i l hl
   split at h
   ·rename_i m bb z hai
    obtain ⟨hn,hk⟩:=h
    refine AS _ hk ?_
    intro a w I bl hp
    have hv:=hp.val x
    rw [hl] at hv
    obtain ⟨b,off,u,hI,hv,hc,h1,hr⟩:=hv.inv_rp
    exact ⟨_,by simp only [execOp,ho,hv,hi' a w I bl hp];simp [Gt hai b _ k n h0 hn w],.pure _ _ (Lm hI hc h1 hr)⟩
   ·exact h.elim
  ·exact h.elim
 ·exact h.elim
def EV (C:Ctx) (s:TypeId) (x:V) (f:Nat) (K:V→St→Prop) (σ:St):Prop:=
 match FI C.P s f with
 | some (off,_,_)=>match x with
   | .rp l=>K (.rp (l.drop off)) σ
   | .ptr id i j=>K (.ptr id i (j+off)) σ
   | _=>False
 | none=>False
theorem Iy {P:Program} {s:TypeId} {f off n:Nat} {bb:Bool} (h:FI P s f=some (off,bb,n)) (b o:Nat) (w:World):
 (Instr.fieldAt s (.pointer (some ⟨b,o,none⟩)) f).run P w= .ok (.pointer (some ⟨b,o+off,none⟩)) w:=by
 obtain ⟨fs,fd,hu,hf,rfl,ht,hn⟩:=Ux h
 simp [Instr.fieldAt,run_underlying hu,hf,Instr.sureAddr,fieldPlace,Al ht,hn,Addr.add_lit]
theorem Su {C:Ctx} {o:Oper} {σ:St} {K:V→St→Prop} {s:TypeId} {x:Operand} {f:Nat} (ho:o.op= .fieldAddr s x f) (h:EV C s (σ.val x) f K σ):Bc C o σ K:=by
 unfold EV at h
 split at h
 ·rename_i off bb n hfi
  split at h
  ·rename_i l hl
   refine AS _ h ?_
   intro a w I bl hp
   have hv:=hp.val x
   rw [hl] at hv
   obtain ⟨b,o',u,hI,hv,hc,h1,hr⟩:=hv.inv_rp
   exact ⟨_,by simp only [execOp,ho,hv];simp [Iy hfi],.pure _ _ (Lm hI hc h1 hr)⟩
  ·rename_i id i j hl
   refine AS _ h ?_
   intro a w I bl hp
   have hv:=hp.val x
   rw [hl] at hv
   obtain ⟨b,base,z',m',e',hbl,hs,hv⟩:=hv.inv_ptr
   refine ⟨.pointer (some ⟨b,base+i*z'+j+off,none⟩),by simp only [execOp,ho,hv];simp [Iy hfi],?_⟩
   have:=Rep.ptr (I:=I) (bl:=bl) id i (j+off) b base z' m' e' hbl hs
   simpa [Nat.add_assoc] using this
  ·exact h.elim
 ·exact h.elim
def LB (P:Program) (t:TypeId) (op:BinOp) (x y:V) (K:V→St→Prop) (σ:St):Prop:=
 match x,y with
 | .int k a,.int k' b=>k=k'∧match op with
   | .add=>K (.int k (k.wrap (a+b))) σ
   | .sub=>K (.int k (k.wrap (a - b))) σ
   | .mul=>K (.int k (k.wrap (a*b))) σ
   | .quo=>b≠0∧K (.int k (k.wrap (a.tdiv b))) σ
   | .rem=>b≠0∧K (.int k (a.tmod b)) σ
   | .eql=>K (.bool (decide (a=b))) σ
   | .neq=>K (.bool (decide (a≠b))) σ
   | .lss=>K (.bool (decide (a < b))) σ
   | .leq=>K (.bool (decide (a≤b))) σ
   | .gtr=>K (.bool (decide (b < a))) σ
   | .geq=>K (.bool (decide (b≤a))) σ
   | _=>False
 | .str s,.str t=>match op with
   | .add=>s.length+t.length≤9223372036854775807∧K (.str (s++t)) σ
   | .eql=>K (.bool (decide (s=t))) σ
   | .neq=>K (.bool (decide (s≠t))) σ
   | _=>False
 | .bool a,.bool b=>X6 P t=true∧match op with
   | .eql=>K (.bool (a==b)) σ
   | .neq=>K (.bool (a != b)) σ
   | _=>False
 | _,_=>False
theorem X7 {C:Ctx} {o:Oper} {σ:St} {K:V→St→Prop} {op:BinOp} {t t':TypeId} {x y:Operand} (ho:o.op= .binOp op t x y t') (h:LB C.P t op (σ.val x) (σ.val y) K σ):Bc C o σ K:=by
 unfold LB at h
 split at h
 ·rename_i k a k' b hx hy
  obtain ⟨rfl,h⟩:=h
  have hX:∀ac w I bl,RP C σ ac w I bl→ac.eval x= .int k a:=fun ac w I bl hp=>by have:=hp.val x;rw [hx] at this;exact this.inv_int
  have hY:∀ac w I bl,RP C σ ac w I bl→ac.eval y= .int k b:=fun ac w I bl hp=>by have:=hp.val y;rw [hy] at this;exact this.inv_int
  have key:∀r:V,∀v:Value,(∀w I bl,Rep w I bl v r)→K r σ→(∀w,(binOp op t (.int k a) (.int k b)).run C.P w= .ok v w)→Bc C o σ K:=by
   intro r v hr hk hrun
   refine AS r hk fun ac w I bl hp=>⟨v,?_,hr w I bl⟩
   simp only [execOp,ho,hX ac w I bl hp,hY ac w I bl hp]
   have:(eqGuard op t x y (.int k a) (.int k b)).run C.P w= .ok () w:=by
    unfold eqGuard
    cases op<;>simp
   simp [this,hrun]
  split at h
  ·exact key _ (.int k (k.wrap (a+b))) (fun _ _ _=>.pure _ _ (.int _ _)) h (fun w=>by simp [binOp,Op.intArith])
  ·exact key _ (.int k (k.wrap (a - b))) (fun _ _ _=>.pure _ _ (.int _ _)) h (fun w=>by simp [binOp,Op.intArith])
  ·exact key _ (.int k (k.wrap (a*b))) (fun _ _ _=>.pure _ _ (.int _ _)) h (fun w=>by simp [binOp,Op.intArith])
  ·exact key _ (.int k (k.wrap (a.tdiv b))) (fun _ _ _=>.pure _ _ (.int _ _)) h.2 (fun w=>by simp [binOp,Op.intDiv,h.1])
  ·exact key _ (.int k (a.tmod b)) (fun _ _ _=>.pure _ _ (.int _ _)) h.2 (fun w=>by simp [binOp,Op.intDiv,h.1])
  ·exact key _ (.bool (a==b)) (fun _ _ _=>by rw [show (a==b)=decide (a=b) from rfl];exact .pure _ _ (.bool _)) h (fun w=>by simp [binOp,Op.intCmp])
  ·exact key _ (.bool (a != b)) (fun _ _ _=>by rw [show (a != b)=decide (a≠b) by rw [Bool.eq_iff_iff];simp];exact .pure _ _ (.bool _)) h (fun w=>by simp [binOp,Op.intCmp])
  ·exact key _ (.bool (decide (a < b))) (fun _ _ _=>.pure _ _ (.bool _)) h (fun w=>by simp [binOp,Op.intCmp])
  ·exact key _ (.bool (decide (a≤b))) (fun _ _ _=>.pure _ _ (.bool _)) h (fun w=>by simp [binOp,Op.intCmp])
  ·exact key _ (.bool (decide (b < a))) (fun _ _ _=>.pure _ _ (.bool _)) h (fun w=>by simp [binOp,Op.intCmp])
  ·exact key _ (.bool (decide (b≤a))) (fun _ _ _=>.pure _ _ (.bool _)) h (fun w=>by simp [binOp,Op.intCmp])
  ·exact h.elim
 ·rename_i s s' hx hy
  have hX:∀ac w I bl,RP C σ ac w I bl→∃t:ByteArray,ac.eval x= .string t∧t.data.toList=s∧t.size≤maxLen:=fun ac w I bl hp=>by have:=hp.val x;rw [hx] at this;exact this.inv_str
  have hY:∀ac w I bl,RP C σ ac w I bl→∃t:ByteArray,ac.eval y= .string t∧t.data.toList=s'∧t.size≤maxLen:=fun ac w I bl hp=>by have:=hp.val y;rw [hy] at this;exact this.inv_str
  have hg:∀(p q:ByteArray) (w:World),(eqGuard op t x y (.string p) (.string q)).run C.P w= .ok () w:=by
   intro p q w
   unfold eqGuard
   cases op<;>simp
  have heq:∀p q:ByteArray,(p.toList==q.toList)=decide (p.data.toList=q.data.toList):=by
   intro p q
   rw [Bool.eq_iff_iff]
   simp only [beq_iff_eq,decide_eq_true_eq]
   rw [Go.ByteArray.toList_eq,Go.ByteArray.toList_eq]
  split at h
  ·obtain ⟨hsz,hk⟩:=h
   refine AS _ hk fun ac w I bl hp=>?_
   obtain ⟨p,hp1,rfl,_⟩:=hX ac w I bl hp
   obtain ⟨q,hq1,rfl,_⟩:=hY ac w I bl hp
   simp only [Array.length_toList] at hsz
   have hsz':¬(((p.size+q.size:Nat):Int) > IntKind.i64.max):=by
    have:IntKind.i64.max=9223372036854775807:=rfl
    have e1:p.size=p.data.size:=rfl
    have e2:q.size=q.data.size:=rfl
    omega
   refine ⟨.string (p++q),?_,?_⟩
   ·simp only [execOp,ho,hp1,hq1]
    simp [hg,binOp,Op.stringOp]
    simpa using hsz'
   ·have:=Pr.str (w:=w) (I:=I) (p++q) (by simp only [maxLen];have:(p++q).size=p.size+q.size:=ByteArray.size_append;have e1:p.size=p.data.size:=rfl;have e2:q.size=q.data.size:=rfl;omega)
    simpa using Rep.pure (bl:=bl) _ _ this
  ·refine AS _ h fun ac w I bl hp=>?_
   obtain ⟨p,hp1,rfl,_⟩:=hX ac w I bl hp
   obtain ⟨q,hq1,rfl,_⟩:=hY ac w I bl hp
   refine ⟨.bool (p.toList==q.toList),?_,by rw [heq];exact .pure _ _ (.bool _)⟩
   simp only [execOp,ho,hp1,hq1]
   simp [hg,binOp,Op.stringOp]
  ·refine AS _ h fun ac w I bl hp=>?_
   obtain ⟨p,hp1,rfl,_⟩:=hX ac w I bl hp
   obtain ⟨q,hq1,rfl,_⟩:=hY ac w I bl hp
   refine ⟨.bool !(p.toList==q.toList),?_,by rw [heq,show (!decide (p.data.toList=q.data.toList))=decide (p.data.toList≠q.data.toList) by simp];exact .pure _ _ (.bool _)⟩
   simp only [execOp,ho,hp1,hq1]
   simp [hg,binOp,Op.stringOp]
  ·exact h.elim
 ·rename_i a b hx hy
  have hX:∀ac w I bl,RP C σ ac w I bl→ac.eval x= .bool a:=fun ac w I bl hp=>by have:=hp.val x;rw [hx] at this;exact this.inv_bool
  have hY:∀ac w I bl,RP C σ ac w I bl→ac.eval y= .bool b:=fun ac w I bl hp=>by have:=hp.val y;rw [hy] at this;exact this.inv_bool
  obtain ⟨hbo,h⟩:=h
  have hu:C.P.underlying t=some .bool:=by
   unfold X6 at hbo
   split at hbo
   ·assumption
   ·simp at hbo
  have hrun:∀w,(Op.equal t (.bool a) (.bool b)).run C.P w= .ok (a==b) w:=fun w=>by
   unfold Op.equal
   rw [show Op.maxDepth=9999+1 from rfl]
   unfold Op.equalIn
   simp [run_underlying hu]
  split at h
  ·refine AS _ h fun ac w I bl hp=>⟨.bool (a==b),?_,.pure _ _ (.bool _)⟩
   simp only [execOp,ho,hX ac w I bl hp,hY ac w I bl hp]
   simp [eqGuard,binOp,hrun]
  ·refine AS _ h fun ac w I bl hp=>⟨.bool (a != b),?_,.pure _ _ (.bool _)⟩
   simp only [execOp,ho,hX ac w I bl hp,hY ac w I bl hp]
   simp [eqGuard,binOp,hrun,bne]
  ·exact h.elim
 ·exact h.elim
def Ko (c a b:V) (K:V→St→Prop) (σ:St):Prop:=
 match c with
 | .bool t=>(t=true→K a σ)∧(t=false→K b σ)
 | _=>False
theorem bM {C:Ctx} {o:Oper} {σ:St} {K:V→St→Prop} {c x y:Operand} (ho:o.op= .pick c x y) (h:Ko (σ.val c) (σ.val x) (σ.val y) K σ):Bc C o σ K:=by
 unfold Ko at h
 split at h
 ·rename_i t hc
  cases t with
  | true=>
    refine AS _ (h.1 rfl) fun a w I bl hp=>⟨a.eval x,?_,hp.val x⟩
    have:=hp.val c
    rw [hc] at this
    simp [execOp,ho,this.inv_bool,asBool]
  | false=>
    refine AS _ (h.2 rfl) fun a w I bl hp=>⟨a.eval y,?_,hp.val y⟩
    have:=hp.val c
    rw [hc] at this
    simp [execOp,ho,this.inv_bool,asBool]
 ·exact h.elim
theorem bN {C:Ctx} {o:Oper} {σ:St} {K:V→St→Prop} {x:Operand} (ho:o.op= .move x) (h:K (σ.val x) σ):Bc C o σ K:=
 AS _ h fun a w I bl hp=>⟨a.eval x,by simp [execOp,ho],hp.val x⟩
theorem WB {C:Ctx} {o:Oper} {σ:St} {K:V→St→Prop} {x:Operand} (ho:o.op= .assign x) (h:K (σ.val x) σ):Bc C o σ K:=
 AS _ h fun a w I bl hp=>⟨a.eval x,by simp [execOp,ho],hp.val x⟩
def dm (op:UnOp) (x:V) (K:V→St→Prop) (σ:St):Prop:=
 match op,x with
 | .not,.bool b=>K (.bool (!b)) σ
 | .neg,.int k n=>K (.int k (k.wrap (0 - n))) σ
 | _,_=>False
theorem iE {C:Ctx} {o:Oper} {σ:St} {K:V→St→Prop} {op:UnOp} {t:TypeId} {x:Operand} (ho:o.op= .unOp op t x) (h:dm op (σ.val x) K σ):Bc C o σ K:=by
 unfold dm at h
 split at h
 ·rename_i b hx
  refine AS _ h fun a w I bl hp=>⟨.bool (!b),?_,.pure _ _ (.bool _)⟩
  have:=hp.val x
  rw [hx] at this
  simp [execOp,ho,this.inv_bool,Op.unary]
 ·rename_i k n hx
  refine AS _ h fun a w I bl hp=>⟨.int k (k.wrap (0 - n)),?_,.pure _ _ (.int _ _)⟩
  have:=hp.val x
  rw [hx] at this
  simp [execOp,ho,this.inv_int,Op.unary,Op.intArith]
 ·exact h.elim
def Kp (x:V) (i:Nat) (K:V→St→Prop) (σ:St):Prop:=
 match x with
 | .tup l=>∃y,l[i]?=some y∧K y σ
 | _=>False
theorem bO {C:Ctx} {o:Oper} {σ:St} {K:V→St→Prop} {x:Operand} {i:Nat} (ho:o.op= .extract x i) (h:Kp (σ.val x) i K σ):Bc C o σ K:=by
 unfold Kp at h
 split at h
 ·rename_i l hx
  obtain ⟨y,hy,hk⟩:=h
  refine AS _ hk fun a w I bl hp=>?_
  have:=hp.val x
  rw [hx] at this
  obtain ⟨vs,hv,hl,hr⟩:=this.inv_tup
  have hlt:i < vs.length:=by rw [hl];exact (List.getElem?_eq_some_iff.1 hy).1
  exact ⟨vs[i],by simp [execOp,ho,hv,Instr.extract,List.getElem?_eq_getElem hlt],hr i _ _ (List.getElem?_eq_getElem hlt) hy⟩
 ·exact h.elim
theorem Iz {P:Program} {t:TypeId} {b:Bool} {n:Nat} (h:TI P t=some (b,n)) (hb:b=false→n=1) (vs:List Value) (off:Nat) (hl:off+n≤vs.length) (w:World):
 (part t vs.toArray off).run P w= .ok (if b then .agg (((vs.drop off).take n)).toArray else vs.getD off undef) w:=by
 cases b with
 | true=>
   simp only [part,Sem.run_bind,Jx h,Result.andThen_ok,if_true,Al h,Sem.run_pure]
   congr 2
   apply Array.ext'
   simp
 | false=>
   obtain rfl:=hb rfl
   have hlt:off < vs.length:=by omega
   simp [part,Jx h,List.getElem?_eq_getElem hlt,List.getD]
theorem Qq {w:World} {I:Nat→Prop} {bl:Nat→Option BI} {b:Bool} {n off:Nat} {vs:List Value} {cs:List V} (hb:b=false→n=1) (hl:vs.length=cs.length) (h1:∀v:Value,v∈vs→v.oneCell'=true)
 (hr:∀(i:Nat) (v:Value) (c:V),vs[i]?=some v→cs[i]?=some c→Rep w I bl v c) (hoff:off+n≤cs.length):
 Rep w I bl (if b then .agg ((vs.drop off).take n).toArray else vs.getD off undef) (Sr b ((cs.drop off).take n)):=by
 cases b with
 | false=>
   obtain rfl:=hb rfl
   have hlt:off < cs.length:=by omega
   have hlt':off < vs.length:=by omega
   have e:Sr false ((cs.drop off).take 1)=cs[off]:=by
    rw [List.drop_eq_getElem_cons hlt]
    rfl
   rw [e]
   simp only [Bool.false_eq_true,if_false,List.getD,List.getElem?_eq_getElem hlt',Option.getD_some]
   exact hr off _ _ (List.getElem?_eq_getElem hlt') (List.getElem?_eq_getElem hlt)
 | true=>
   refine .agg _ _ (by simp [hl]) (fun v hv=>h1 v (List.mem_of_mem_drop (List.mem_of_mem_take hv))) ?_
   intro i v c hv hc
   rw [List.getElem?_take] at hv hc
   split at hv
   ·rename_i hi
    rw [if_pos hi] at hc
    rw [List.getElem?_drop] at hv hc
    exact hr _ v c hv hc
   ·simp at hv
def Qr (C:Ctx) (s:TypeId) (x:V) (f:Nat) (K:V→St→Prop) (σ:St):Prop:=
 match FI C.P s f with
 | some (off,b,n)=>(b=false→n=1)∧match x with
   | .agg cs=>off+n≤cs.length∧K (Sr b ((cs.drop off).take n)) σ
   | _=>False
 | none=>False
theorem eM {C:Ctx} {o:Oper} {σ:St} {K:V→St→Prop} {s:TypeId} {x:Operand} {f:Nat} (ho:o.op= .field s x f) (h:Qr C s (σ.val x) f K σ):Bc C o σ K:=by
 unfold Qr at h
 split at h
 ·rename_i off b n hfi
  obtain ⟨hb,h⟩:=h
  split at h
  ·rename_i cs hx
   obtain ⟨hoff,hk⟩:=h
   obtain ⟨fs,fd,hu,hf,rfl,ht,hn⟩:=Ux hfi
   refine AS _ hk fun a w I bl hp=>?_
   have:=hp.val x
   rw [hx] at this
   obtain ⟨vs,hv,hl,h1,hr⟩:=this.inv_agg
   refine ⟨_,?_,Qq hb hl h1 hr hoff⟩
   simp only [execOp,ho,hv]
   simp [Instr.field,run_underlying hu,hf,asAgg,Iz ht hb vs fd.offset (by omega)]
  ·exact h.elim
 ·exact h.elim
def Qs (C:Ctx) (t:TypeId) (x i:V) (K:V→St→Prop) (σ:St):Prop:=
 match i with
 | .int _ n=>0≤n∧match x with
   | .str s=>ET C.P t=true∧∃c,s[n.toNat]?=some c∧K (.int .u8 c.toNat) σ
   | .agg cs=>match AI C.P t with
     | some (m,b,z)=>(b=false→z=1)∧n.toNat < m∧n.toNat*z+z≤cs.length∧K (Sr b ((cs.drop (n.toNat*z)).take z)) σ
     | none=>False
   | _=>False
 | _=>False
theorem bP {t:ByteArray} {k:Nat} {c:UInt8} (h:t.data.toList[k]?=some c):t[k]?=some c:=by
 rw [Array.getElem?_toList] at h
 have hlt:k < t.data.size:=(Array.getElem?_eq_some_iff.1 h).1
 have:t.data[k]=c:=(Array.getElem?_eq_some_iff.1 h).2
 have hlt':k < t.size:=hlt
 rw [getElem?_pos t k hlt']
 exact congrArg some this
theorem eN {C:Ctx} {o:Oper} {σ:St} {K:V→St→Prop} {t:TypeId} {x i:Operand} (ho:o.op= .index t x i) (h:Qs C t (σ.val x) (σ.val i) K σ):Bc C o σ K:=by
 unfold Qs at h
 split at h
 ·rename_i k n hi
  obtain ⟨h0,h⟩:=h
  have hi':∀a w I bl,RP C σ a w I bl→a.eval i= .int k n:=fun a w I bl hp=>by have:=hp.val i;rw [hi] at this;exact this.inv_int
  split at h
  ·rename_i s hx
   obtain ⟨hst,c,hc,hk⟩:=h
   have hu:C.P.underlying t=some .string:=by
    unfold ET at hst
    split at hst
    ·assumption
    ·simp at hst
   refine AS _ hk fun a w I bl hp=>?_
   have:=hp.val x
   rw [hx] at this
   obtain ⟨p,hp1,rfl,_⟩:=this.inv_str
   refine ⟨_,?_,.pure _ _ (.int _ _)⟩
   simp only [execOp,ho,hp1,hi' a w I bl hp]
   simp [Instr.index,asIntOf,run_underlying hu,h0,bP hc]
  ·rename_i cs hx
   split at h
   ·rename_i m b z hai
    obtain ⟨hb,hn,hoff,hk⟩:=h
    obtain ⟨e,hu,ht⟩:=PS hai
    refine AS _ hk fun a w I bl hp=>?_
    have:=hp.val x
    rw [hx] at this
    obtain ⟨vs,hv,hl,h1,hr⟩:=this.inv_agg
    refine ⟨_,?_,Qq hb hl h1 hr hoff⟩
    simp only [execOp,ho,hv,hi' a w I bl hp]
    have hlt:0≤n∧n < (m:Int):=⟨h0,by omega⟩
    simp [Instr.index,asIntOf,run_underlying hu,hlt,Al ht,Iz ht hb vs _ (show n.toNat*z+z≤vs.length by omega)]
   ·exact h.elim
  ·exact h.elim
 ·exact h.elim
def dn (fn:Fn) (first cap:List V) (K:V→St→Prop) (σ:St):Prop:=
 match fn,first with
 | .func f,[]=>K (.fn f cap) σ
 | _,_=>False
theorem iF {C:Ctx} {o:Oper} {σ:St} {K:V→St→Prop} {fn:Fn} {first cap:Array Operand} (ho:o.op= .makeFunc fn first cap) (h:dn fn (first.toList.map σ.val) (cap.toList.map σ.val) K σ):Bc C o σ K:=by
 unfold dn at h
 split at h
 ·rename_i f hf
  have hf':first=#[]:=by simpa using hf
  subst hf'
  refine AS _ h fun a w I bl hp=>⟨.func (.func f) #[] (cap.toList.map a.eval).toArray,?_,?_⟩
  ·simp only [execOp,ho,Instr.makeFunc]
   have:cap.map a.eval=(cap.toList.map a.eval).toArray:=by apply Array.ext';simp
   simp [this]
  ·refine .fn f _ _ (by simp) ?_
   intro i v c hv hc
   simp only [List.getElem?_map] at hv hc
   cases hx:cap.toList[i]? with
   | none=>simp [hx] at hv
   | some x=>
     simp only [hx,Option.map_some,Option.some.injEq] at hv hc
     subst hv;subst hc
     exact hp.val x
 ·exact h.elim
def G5 (x:V) (K:V→St→Prop) (σ:St):Prop:=
 match x with
 | .ptr id i j=>K (.ptr id i j) σ
 | .rp l=>K (.rp l) σ
 | .fn f l=>K (.fn f l) σ
 | _=>False
theorem X8 {C:Ctx} {o:Oper} {σ:St} {K:V→St→Prop} {x:Operand} (ho:o.op= .nilCheck x) (h:G5 (σ.val x) K σ):Bc C o σ K:=by
 unfold G5 at h
 split at h
 ·rename_i id i j hx
  refine AS _ h fun a w I bl hp=>?_
  have hv:=hp.val x
  rw [hx] at hv
  obtain ⟨b,base,z',m',e',hbl,hs,hv'⟩:=hv.inv_ptr
  exact ⟨a.eval x,by simp [execOp,ho,hv'],hv⟩
 ·rename_i l hx
  refine AS _ h fun a w I bl hp=>?_
  have hv:=hp.val x
  rw [hx] at hv
  obtain ⟨b,o',u,hI,hv',_⟩:=hv.inv_rp
  exact ⟨a.eval x,by simp [execOp,ho,hv'],hv⟩
 ·rename_i f l hx
  refine AS _ h fun a w I bl hp=>?_
  have hv:=hp.val x
  rw [hx] at hv
  obtain ⟨vs,hv',_⟩:=hv.inv_fn
  exact ⟨a.eval x,by simp [execOp,ho,hv'],hv⟩
 ·exact h.elim
def Gu (P:Program) (src dst:TypeId) (x:V) (K:V→St→Prop) (σ:St):Prop:=
 match x with
 | .int _ n=>match PQ P dst,P.underlying src with
   | some k,some _=>K (.int k (k.wrap n)) σ
   | _,_=>False
 | .str s=>match ET P dst,ET P src with
   | true,true=>K (.str s) σ
   | _,_=>False
 | _=>False
theorem Uy {C:Ctx} {o:Oper} {σ:St} {K:V→St→Prop} {src dst:TypeId} {x:Operand} (ho:o.op= .convert src dst x) (h:Gu C.P src dst (σ.val x) K σ):Bc C o σ K:=by
 unfold Gu at h
 split at h
 ·rename_i k' n hx
  split at h
  ·rename_i k d hk hs
   have hu:C.P.underlying dst=some (.int k):=by
    unfold PQ at hk
    split at hk
    ·rename_i k2 e;simp only [Option.some.injEq] at hk;subst hk;exact e
    ·simp at hk
   refine AS _ h fun a w I bl hp=>⟨.int k (k.wrap n),?_,.pure _ _ (.int _ _)⟩
   have:=hp.val x
   rw [hx] at this
   simp only [execOp,ho,this.inv_int]
   simp [convert,run_underlying hs,run_underlying hu,Conv.intToInt]
  ·exact h.elim
 ·rename_i s hx
  split at h
  ·rename_i hd hs
   have hu:C.P.underlying dst=some .string:=by
    unfold ET at hd
    split at hd
    ·assumption
    ·simp at hd
   have hu2:C.P.underlying src=some .string:=by
    unfold ET at hs
    split at hs
    ·assumption
    ·simp at hs
   refine AS _ h fun a w I bl hp=>?_
   have:=hp.val x
   rw [hx] at this
   obtain ⟨p,hp1,rfl,hsz⟩:=this.inv_str
   refine ⟨.string p,?_,.pure _ _ (.str _ hsz)⟩
   simp only [execOp,ho,hp1]
   simp [convert,run_underlying hu,run_underlying hu2]
  ·exact h.elim
 ·exact h.elim
def WC (P:Program) (t:TypeId) (x:V) (K:V→St→Prop) (σ:St):Prop:=
 match x with
 | .str s=>ET P t=true∧(s.length≤maxLen→K (.int .i64 s.length) σ)
 | .lst l=>Fc P t=true∧(l.length≤maxLen→K (.int .i64 l.length) σ)
 | .nils=>Fc P t=true∧K (.int .i64 0) σ
 | .sl _ _ n=>Fc P t=true∧(n≤maxLen→K (.int .i64 n) σ)
 | _=>False
theorem Ln {w:World} {I:Nat→Prop} {bl:Nat→Option BI} {v:Value} {id off n:Nat} (h:Rep w I bl v (.sl id off n)):n≤maxLen∧∃a cap,v= .slice a n cap:=by
 rcases h.inv_sl with ⟨_,_,_,_,rfl,rfl⟩|⟨_,_,_,rfl,rfl⟩|⟨cap,b,base,z',m,e',hbl,hs,hsz,hlc,hcm,rfl⟩
 ·exact ⟨by simp [maxLen],_,_,rfl⟩
 ·exact ⟨by simp [maxLen],_,_,rfl⟩
 ·exact ⟨by omega,_,_,rfl⟩
theorem Cz {P:Program} {t:TypeId} (h:Fc P t=true):∃e,P.underlying t=some (.slice e):=by
 unfold Fc at h
 split at h
 ·exact ⟨_,‹_›⟩
 ·simp at h
theorem FC {P:Program} {t:TypeId} (h:ET P t=true):P.underlying t=some .string:=by
 unfold ET at h
 split at h
 ·assumption
 ·simp at h
theorem Ew {C:Ctx} {a:Act} {o:Oper} {x:Operand} {t:TypeId} (ho:o.op= .call { callee:=.builtin .len,args:=#[x],argTypes:=#[t]}) (w:World) {v:Value} (h:(Builtin.len_ #[t] o.type #[a.eval x]).run C.P w= .ok v w):
 (execOp a.eval o).run C.P w= .ok (.value v) w:=by
 simp [execOp,ho,resolve,invoke,builtin,h]
theorem eO {C:Ctx} {o:Oper} {σ:St} {K:V→St→Prop} {t:TypeId} {x:Operand} (ho:o.op= .call { callee:=.builtin .len,args:=#[x],argTypes:=#[t]}) (h:WC C.P t (σ.val x) K σ):Bc C o σ K:=by
 unfold WC at h
 split at h
 ·rename_i s hx
  obtain ⟨hs,h⟩:=h
  refine Ak fun a w I bl hp=>?_
  have:=hp.val x
  rw [hx] at this
  obtain ⟨p,hp1,rfl,hsz⟩:=this.inv_str
  refine ⟨goInt p.size,w,.int .i64 p.data.toList.length,σ,Ew ho w ?_,h hsz,hp.relx (.pure _ _ (.int _ _))⟩
  rw [hp1]
  simp [Builtin.len_,run_underlying (FC hs)]
 ·rename_i l hx
  obtain ⟨hs,h⟩:=h
  obtain ⟨e,hu⟩:=Cz hs
  refine Ak fun a w I bl hp=>?_
  have:=hp.val x
  rw [hx] at this
  obtain ⟨hm,hc⟩:=this.inv_lst
  have hv:∃p cap,a.eval x= .slice p l.length cap:=by
   rcases hc with ⟨rfl,p,cap,e⟩|⟨b,off,cap,z,u,_,_,_,e,_⟩
   ·exact ⟨p,cap,e⟩
   ·exact ⟨_,_,e⟩
  obtain ⟨p,cap,hv⟩:=hv
  refine ⟨goInt l.length,w,.int .i64 l.length,σ,Ew ho w ?_,h hm,hp.relx (.pure _ _ (.int _ _))⟩
  rw [hv]
  simp [Builtin.len_,run_underlying hu]
 ·rename_i hx
  obtain ⟨hs,h⟩:=h
  obtain ⟨e,hu⟩:=Cz hs
  refine Ak fun a w I bl hp=>?_
  have:=hp.val x
  rw [hx] at this
  refine ⟨goInt 0,w,.int .i64 0,σ,Ew ho w ?_,h,hp.relx (.pure _ _ (.int _ _))⟩
  rw [this.inv_nils]
  simp [Builtin.len_,run_underlying hu]
 ·rename_i id off n hx
  obtain ⟨hs,h⟩:=h
  obtain ⟨e,hu⟩:=Cz hs
  refine Ak fun a w I bl hp=>?_
  have:=hp.val x
  rw [hx] at this
  obtain ⟨hm,p,cap,hv⟩:=Ln this
  refine ⟨goInt n,w,.int .i64 n,σ,Ew ho w ?_,h hm,hp.relx (.pure _ _ (.int _ _))⟩
  rw [hv]
  simp [Builtin.len_,run_underlying hu]
 ·exact h.elim
def Nt (lo:Option V):Option Nat:=match lo with|none=>some 0|some (.int _ n)=>if 0≤n then some n.toNat else none|_=>none
def PT (d:Nat) (hi:Option V):Option Nat:=match hi with|none=>some d|some (.int _ n)=>if 0≤n then some n.toNat else none|_=>none
def G6 (P:Program) (t:TypeId) (x:V) (lo hi:Option V) (K:V→St→Prop) (σ:St):Prop:=
 match x with
 | .str s=>ET P t=true∧match Nt lo,PT s.length hi with
   | some l,some h=>l≤h∧h≤s.length∧K (.str ((s.take h).drop l)) σ
   | _,_=>False
 | .lst s=>match EI P t with
   | some (_,z)=>(∀y∈s,y.cells.length=z)∧match Nt lo,PT s.length hi with
     | some l,some h=>l≤h∧h≤s.length∧K (.lst ((s.take h).drop l)) σ
     | _,_=>False
   | _=>False
 | .sl id off n=>match EI P t,σ.row id with
   | some (_,z),some (z',_)=>z=z'∧match Nt lo,PT n hi with
     | some l,some h=>l≤h∧h≤n∧K (.sl id (off+l) (h - l)) σ
     | _,_=>False
   | _,_=>False
 | .gp g=>match AI P t with
   | some (m,_,_)=>lo=none∧hi=none∧m≤maxLen∧K (.gsl g m) σ
   | none=>False
 | _=>False
theorem G7 {P:Program} {x:Value} {y l:Nat} {code:BoundsCode} {w:World} {k:IntKind} {n:Int} (hx:x= .int k n) (h0:0≤n) (hl:n.toNat=l) (hy:l≤y):(Instr.sliceBound x y code).run P w= .ok l w:=by
 subst hx
 have:0≤n∧n≤(y:Int):=⟨h0,by omega⟩
 simp [Instr.sliceBound,asIntOf,this,hl]
theorem B6 {P:Program} {σ:St} {C:Ctx} {a:Act} {w:World} {I:Nat→Prop} {bl:Nat→Option BI} (hp:RP C σ a w I bl) (isS:Bool) (len cap l h:Nat) (lo hi:Option Operand)
 (hlo:Nt (lo.map σ.val)=some l) (hhi:PT len (hi.map σ.val)=some h) (hlh:l≤h) (hc:h≤cap):
 (Instr.sliceBounds isS len cap (lo.map a.eval) (hi.map a.eval) none).run P w= .ok (l,h,cap) w:=by
 have e1:∀(o:Operand) (k:IntKind) (n:Int),σ.val o= .int k n→a.eval o= .int k n:=fun o k n e=>by have:=hp.val o;rw [e] at this;exact this.inv_int
 have hH:∀o,hi=some o→∀code,(Instr.sliceBound (a.eval o) cap code).run P w= .ok h w:=by
  intro o ho code
  subst ho
  simp only [Option.map_some,PT] at hhi
  split at hhi
  ·rename_i hh;cases hh
  ·rename_i k n he
   split at hhi
   ·rename_i h0
    simp only [Option.some.injEq] at hhi he
    exact G7 (e1 _ _ _ he) h0 hhi hc
   ·simp at hhi
  ·simp at hhi
 have hL:∀o,lo=some o→∀code,(Instr.sliceBound (a.eval o) h code).run P w= .ok l w:=by
  intro o ho code
  subst ho
  simp only [Option.map_some,Nt] at hlo
  split at hlo
  ·rename_i hh;cases hh
  ·rename_i k n he
   split at hlo
   ·rename_i h0
    simp only [Option.some.injEq] at hlo he
    exact G7 (e1 _ _ _ he) h0 hlo hlh
   ·simp at hlo
  ·simp at hlo
 cases hi with
 | none=>
   simp [PT] at hhi
   subst hhi
   cases lo with
   | none=>
     simp [Nt] at hlo
     subst hlo
     simp [Instr.sliceBounds]
   | some o=>simp [Instr.sliceBounds,hL o rfl]
 | some o'=>
   cases lo with
   | none=>
     simp [Nt] at hlo
     subst hlo
     simp [Instr.sliceBounds,hH o' rfl]
   | some o=>simp [Instr.sliceBounds,hL o rfl,hH o' rfl]
theorem X9 {C:Ctx} {o:Oper} {σ:St} {K:V→St→Prop} {t:TypeId} {x:Operand} {lo hi:Option Operand} (ho:o.op= .slice t x lo hi none) (h:G6 C.P t (σ.val x) (lo.map σ.val) (hi.map σ.val) K σ):Bc C o σ K:=by
 unfold G6 at h
 split at h
 ·rename_i s hx
  obtain ⟨hs,h⟩:=h
  split at h
  ·rename_i l hh hlo hhi
   obtain ⟨h1,h2,hk⟩:=h
   refine AS _ hk fun a w I bl hp=>?_
   have:=hp.val x
   rw [hx] at this
   obtain ⟨p,hp1,rfl,hsz⟩:=this.inv_str
   have hb:=B6 (P:=C.P) hp false p.size p.size l hh lo hi hlo (by simpa using hhi) h1 (by simpa using h2)
   have hu:=FC hs
   refine ⟨.string (p.extract l hh),?_,?_⟩
   ·simp only [execOp,ho,hp1]
    simp [Instr.sliceAt,Instr.slice,run_underlying hu,hb]
   ·have hsz':(p.extract l hh).size≤maxLen:=by simp only [ByteArray.size_extract];omega
    have e:(p.extract l hh).data.toList=(p.data.toList.take hh).drop l:=by
     simp only [ByteArray.data_extract,Array.toList_extract]
     rw [List.drop_take]
    rw [←e]
    exact .pure _ _ (.str _ hsz')
  ·exact h.elim
 ·rename_i s hx
  split at h
  ·rename_i e z hei
   obtain ⟨hz,h⟩:=h
   obtain ⟨hu,bb,hte⟩:=Ev hei
   split at h
   ·rename_i l hh hlo hhi
    obtain ⟨h1,h2,hk⟩:=h
    refine AS _ hk fun a w I bl hp=>?_
    have:=hp.val x
    rw [hx] at this
    obtain ⟨hm,hc⟩:=this.inv_lst
    rcases hc with ⟨rfl,p,cap,hv⟩|⟨b,off,cap,z',u,hI,hlc,hcm,hv,h4,h5,h6,h7⟩
    ·simp at h2
     subst h2
     obtain rfl:l=0:=by omega
     have hb:=B6 (P:=C.P) hp true 0 cap 0 0 lo hi hlo (by simpa using hhi) (Nat.le_refl _) (Nat.zero_le _)
     refine ⟨.slice (if cap=0 then p else p.map (·.add (0*z))) 0 cap,?_,by simpa using Rep.pure (bl:=bl) _ _ (Pr.lnil (w:=w) (I:=I) (if cap=0 then p else p.map (·.add (0*z))) cap)⟩
     simp only [execOp,ho,hv]
     simp [Instr.sliceAt,Instr.slice,run_underlying hu,hb,Al hte]
    ·have hb:=B6 (P:=C.P) hp true s.length cap l hh lo hi hlo hhi h1 (by omega)
     by_cases hlh:l=hh
     ·subst hlh
      have e:(s.take l).drop l=[]:=by simp
      rw [e]
      refine ⟨.slice (if cap=l then some ⟨b,off,none⟩ else some ((⟨b,off,none⟩:Addr).add (l*z))) 0 (cap - l),?_,.pure _ _ (.lnil _ _)⟩
      simp only [execOp,ho,hv]
      simp [Instr.sliceAt,Instr.slice,run_underlying hu,hb,Al hte]
     ·have hne:¬cap=l:=by omega
      have hlen:((s.take hh).drop l).length=hh - l:=by simp;omega
      refine ⟨.slice (some ⟨b,off+l*z,none⟩) (hh - l) (cap - l),?_,?_⟩
      ·simp only [execOp,ho,hv]
       simp [Instr.sliceAt,Instr.slice,run_underlying hu,hb,Al hte,hne,Addr.add_lit]
      ·rw [←hlen]
       have hzz:∀y∈s,y.cells.length=z':=fun y hy=>by obtain ⟨i,hi⟩:=List.mem_iff_getElem?.1 hy;exact h4 i y hi
       have hz':z=z':=by
        have hne':s≠[]:=fun e=>by subst e;simp at h2;omega
        obtain ⟨y,hy⟩:=List.exists_mem_of_ne_nil s hne'
        rw [←hz y hy,hzz y hy]
       subst hz'
       have hget:∀(i:Nat) (y:V),((s.take hh).drop l)[i]?=some y→s[l+i]?=some y:=by
        intro i y hy
        rw [List.getElem?_drop,List.getElem?_take] at hy
        split at hy
        ·exact hy
        ·simp at hy
       refine .pure _ _ (.lst b (off+l*z) (cap - l) z _ (fun i j=>u (l+i) j) hI (by omega) (by omega) (fun i y hy=>h4 _ _ (hget i y hy)) (fun i j hi hj=>?_) (fun i j=>h6 _ _) (fun i y j c hy hc=>h7 _ _ _ _ (hget i y hy) hc))
       rw [hlen] at hi
       have:=h5 (l+i) j (by omega) hj
       rw [Nat.add_mul] at this
       simpa [Nat.add_assoc] using this
   ·exact h.elim
  ·exact h.elim
 ·rename_i id off n hx
  split at h
  ·rename_i e z z' els hei hrow
   obtain ⟨rfl,h⟩:=h
   obtain ⟨hu,bb,hte⟩:=Ev hei
   split at h
   ·rename_i l hh hlo hhi
    obtain ⟨h1,h2,hk⟩:=h
    refine AS _ hk fun a w I bl hp=>?_
    have:=hp.val x
    rw [hx] at this
    rcases this.inv_sl with ⟨base,z',hbl,rfl,rfl,hv⟩|⟨p,i,hbl,rfl,hv⟩|⟨cap,b,base,z',m,e',hbl,hs,hsz,hlc,hcm,hv⟩
    ·obtain rfl:hh=0:=by omega
     obtain rfl:l=0:=by omega
     have hb:=B6 (P:=C.P) hp true 0 0 0 0 lo hi hlo hhi (Nat.le_refl _) (Nat.le_refl _)
     refine ⟨.slice none 0 0,?_,.nsl id base z' hbl⟩
     simp only [execOp,ho,hv]
     simp [Instr.sliceAt,Instr.slice,run_underlying hu,hb,Al hte]
    ·obtain rfl:hh=0:=by omega
     obtain rfl:l=0:=by omega
     have hb:=B6 (P:=C.P) hp true 0 0 0 0 lo hi hlo hhi (Nat.le_refl _) (Nat.le_refl _)
     refine ⟨.slice (some p) 0 0,?_,.esl id _ p i hbl⟩
     simp only [execOp,ho,hv]
     simp [Instr.sliceAt,Instr.slice,run_underlying hu,hb,Al hte]
    ·obtain ⟨rfl,_⟩:=hp.objCell hrow hbl
     have hb:=B6 (P:=C.P) hp true n cap l hh lo hi hlo hhi h1 (by omega)
     by_cases hcl:cap=l
     ·have e1:hh - l=0:=by omega
      rw [e1]
      subst hcl
      refine ⟨.slice (some ⟨b,base+off*z',none⟩) 0 0,?_,.esl id _ _ _ hbl⟩
      simp only [execOp,ho,hv]
      simp [Instr.sliceAt,Instr.slice,run_underlying hu,hb,Al hte,e1]
     ·refine ⟨.slice (some ⟨b,base+off*z'+l*z',none⟩) (hh - l) (cap - l),?_,?_⟩
      ·simp only [execOp,ho,hv]
       simp [Instr.sliceAt,Instr.slice,run_underlying hu,hb,Al hte,hcl,Addr.add_lit]
      ·have:=Rep.sl (I:=I) id (off+l) (hh - l) (cap - l) b base z' m e' hbl hs (by
        have e2:off+l+(cap - l)=off+cap:=by omega
        rw [e2];exact hsz) (by omega) (by omega)
       rw [Nat.add_mul] at this
       simpa [Nat.add_assoc] using this
   ·exact h.elim
  ·exact h.elim
 ·rename_i g hx
  split at h
  ·rename_i m b z hai
   obtain ⟨hlo,hhi,hm,hk⟩:=h
   obtain ⟨e,hu,hte⟩:=PS hai
   have hlo:lo=none:=by simpa using hlo
   have hhi:hi=none:=by simpa using hhi
   subst hlo;subst hhi
   refine AS _ hk fun a w I bl hp=>?_
   have:=hp.val x
   rw [hx] at this
   refine ⟨.slice (some ⟨g,0,none⟩) m m,?_,.pure _ _ (.gsl g m hm)⟩
   simp only [execOp,ho,this.inv_gp]
   by_cases hm0:m=0
   ·simp [Instr.sliceAt,Instr.sureAddr,Instr.sliceBounds,run_underlying hu,Al hte,hm0]
   ·simp [Instr.sliceAt,Instr.sureAddr,Instr.sliceBounds,run_underlying hu,Al hte,hm0,Addr.add_lit]
  ·exact h.elim
 ·exact h.elim
end Go.Proofs.YtkaiffheakalmaaGreatDoor
