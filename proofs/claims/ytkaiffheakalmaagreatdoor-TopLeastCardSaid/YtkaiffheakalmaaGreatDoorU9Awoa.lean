/- Copied, stripped. No conditions. -/
import Derived.Test.YtkaiffheakalmaaGreatDoorU9Awo
import Derived.Laws.MakeOwn
import Derived.Laws.StructEq
set_option linter.unusedSimpArgs false
set_option linter.unusedVariables false
set_option maxRecDepth 100000
namespace Go.Proofs.YtkaiffheakalmaaGreatDoor
open Go.RowKit
def K1 (C:Ctx) (t:TypeId) (l c:V) (K:V→St→Prop) (σ:St):Prop:=
  match l,c with
  | .int _ n,.int _ m=>match EI C.P t with
    | some (e,z)=>match ZV C.P e with
      | some x=>f4 C.P e z=true∧x.cells.length=z∧0≤n∧n≤m∧(Mh C.P e:Int)*m≤281474976710656∧m≤9223372036854775807∧
          K (.sl (AG σ.heap) 0 n.toNat) { σ with heap:=Aj σ.heap (.row z (List.replicate n.toNat x))}
      | none=>False
    | none=>False
  | _,_=>False
theorem Yp {C:Ctx} {o:Oper} {σ:St} {K:V→St→Prop} {t:TypeId} {lo co:Operand} (ho:o.op= .makeSlice t lo co) (h:K1 C t (σ.val lo) (σ.val co) K σ):BR C o σ K:=by
  unfold K1 at h
  split at h
  . rename_i k1 n k2 m hlv hcv
    split at h
    . rename_i e z hei
      split at h
      . rename_i x hx
        obtain ⟨hz,hxz,h0,hnm,hby,hm,hk⟩:=h
        obtain ⟨hu,bb,hte⟩:=EH hei
        obtain ⟨i,zv,hi,hiz,hzi,hzs,hz1,hz0⟩:=Ki hz
        obtain ⟨z0,hz0i,hz0p,hz0one⟩:=KF hx
        rw [hzi] at hz0i
        cases hz0i
        have hsz:i.size=z:=by
          unfold TI at hte
          split at hte
          . rename_i d i' _ hi'
            rw [hi] at hi'
            cases hi'
            simp at hte
            exact hte.2
          . cases hte
        refine Am fun a w I bl hp=>?_
        have hl':=hp.val lo;rw [hlv] at hl'
        have hc':=hp.val co;rw [hcv] at hc'
        have hbyi:(i.bytes:Int)*m≤281474976710656:=by
          have:Mh C.P e=i.bytes:=by unfold Mh;rw [hi];rfl
          rw [←this];exact hby
        have hrun:=run_make (P:=C.P) w t e i zv hu hi hiz k1 k2 n m h0 hnm hbyi hm
        have hrc:=Kg (w:=w) (I:=I) (bl:=bl) (.pure _ _ (hz0p w I)) hz0one
        have hcsz:(madeCells zv.cells (m.toNat*i.size)).size=m.toNat*z:=by rw [size_madeCells,hsz]
        have hnm':n.toNat≤m.toNat:=by omega
        have hmul:n.toNat*z≤m.toNat*z:=Nat.mul_le_mul_right z hnm'
        have hal:=hp.alloc (madeCells zv.cells (m.toNat*i.size)) e z (List.replicate n.toNat x) (fun j y hy=>by
            have:=List.getElem?_eq_some_iff.1 hy
            obtain ⟨_,h2⟩:=this
            rw [←h2];simpa using hxz) (by rw [hcsz];simpa using hmul) (by
          intro j y q c hy hyc
          have hyx:y=x∧j < n.toNat:=by
            obtain ⟨h1,h2⟩:=List.getElem?_eq_some_iff.1 hy
            exact ⟨by rw [←h2];simp,by simpa using h1⟩
          obtain ⟨rfl,hj⟩:=hyx
          have hq:q < z:=by rw [←hxz];exact (List.getElem?_eq_some_iff.1 hyc).1
          have hlt:j*z+q < m.toNat*z:=by
            have:(j+1)*z≤m.toNat*z:=Nat.mul_le_mul_right z (by omega)
            rw [Nat.add_mul] at this
            omega
          have hmod:(j*z+q) % zv.cells.size=q:=by
            rw [hzs,Nat.add_comm,Nat.add_mul_mod_self_right,Nat.mod_eq_of_lt hq]
          have hqs:q < zv.cells.size:=by rw [hzs];exact hq
          refine ⟨zv.cells[q],?_,hz1 _ (by simp),hrc.2.2 q _ c (by simp [hqs]) hyc⟩
          unfold madeCells
          rw [Array.getElem?_map,Array.getElem?_range,if_pos (by rw [hsz];exact hlt)]
          simp only [Option.map_some,hmod]
          rw [getElem!_pos zv.cells q hqs])
        refine ⟨.slice (some ⟨w.heap.size,0,none⟩) n.toNat m.toNat,w.alloc (.cells (madeCells zv.cells (m.toNat*i.size)) e),_,_,?_,hk,hal.relx ?_⟩
        . simp only [execOp,ho,hl'.inv_int,hc'.inv_int,Sem.run_bind,hrun,Result.andThen_ok]
          rfl
        . have:=Rep.sl (w:=w.alloc (.cells (madeCells zv.cells (m.toNat*i.size)) e)) (I:=I) (AG σ.heap) 0 n.toNat m.toNat w.heap.size 0 z _ e (AX bl _ _) (ET w _ e) (by rw [hcsz];simp) hnm' (by simp only [maxLen];omega)
          simpa using this
      . exact h.elim
    . exact h.elim
  . exact h.elim
def PS (C:Ctx) (t:TypeId) (x h m:V) (K:V→St→Prop) (σ:St):Prop:=
  match h,m with
  | .int _ n,.int _ k=>n=0∧k=0∧match EI C.P t with
    | some (_,z)=>match x with
      | .lst _|.nils|.sl _ _ _=>K (.sl (AG σ.heap) 0 0) { σ with heap:=Aj σ.heap (.row z [])}
      | _=>False
    | none=>False
  | _,_=>False
def WJ:V→Bool
  | .lst _=>true
  | .nils=>true
  | .sl _ _ _=>true
  | _=>false
theorem US {w:World} {I:Nat→Prop} {bl:Nat→Option BI} {v:Value} {x:V} (h:Rep w I bl v x) (hx:WJ x=true):∃a len cap,v= .slice a len cap:=by
  cases x with
  | lst l=>
    rcases h.inv_lst.is with ⟨_,a,cap,rfl⟩|⟨b,off,cap,z,u,_,_,_,rfl,_⟩
    . exact ⟨_,_,_,rfl⟩
    . exact ⟨_,_,_,rfl⟩
  | nils=>exact ⟨_,_,_,h.inv_nils⟩
  | sl id off n=>
    rcases h.inv_sl with ⟨_,_,_,_,_,rfl⟩|⟨_,_,_,_,rfl⟩|⟨_,_,_,_,_,_,_,_,_,_,_,rfl⟩
    all_goals exact ⟨_,_,_,rfl⟩
  | _=>cases hx
theorem Yq {C:Ctx} {o:Oper} {σ:St} {K:V→St→Prop} {t:TypeId} {x hh mm:Operand} (ho:o.op= .slice t x none (some hh) (some mm)) (h:PS C t (σ.val x) (σ.val hh) (σ.val mm) K σ):BR C o σ K:=by
  unfold PS at h
  split at h
  . rename_i k1 n k2 k hhv hmv
    obtain ⟨rfl,rfl,h⟩:=h
    split at h
    . rename_i e z hei
      obtain ⟨hu,bb,hte⟩:=EH hei
      have hk:K (.sl (AG σ.heap) 0 0) { σ with heap:=Aj σ.heap (.row z [])}∧WJ (σ.val x)=true:=by
        cases hv:σ.val x<;>rw [hv] at h<;>first|exact ⟨h,rfl⟩|exact (h:False).elim
      refine Am fun a w I bl hp=>?_
      obtain ⟨p,len,cap,hv⟩:=US (hp.val x) hk.2
      have hh':=hp.val hh;rw [hhv] at hh'
      have hm':=hp.val mm;rw [hmv] at hm'
      refine ⟨.slice p 0 0,w,_,_,?_,hk.1,(hp.adopt z).relx ?_⟩
      . simp only [execOp,ho,hv,Option.map_some,Option.map_none,hh'.inv_int,hm'.inv_int]
        simp [Instr.sliceAt,Instr.slice,run_underlying hu,Instr.sliceBounds,Instr.sliceBound,asIntOf,Ao hte]
      . cases p with
        | none=>exact .nsl _ 0 z (AX _ _ _)
        | some p=>exact .esl _ 0 p _ (AX _ _ _)
    . exact h.elim
  . exact h.elim
inductive Kd where
  | s
  | b
  | i (k:IntKind)
def WK (P:Program) (t:TypeId):Option Kd:=match P.underlying t with|some .string=>some .s|some .bool=>some .b|some (.int k)=>some (.i k)|_=>none
def Yr (P:Program):Nat→List Field→Option (List Kd)
  | _,[]=>some []
  | k, f :: fs => if f.name ≠ "_" ∧ f.offset = k then match WK P f.type with | some d => (Yr P (k + 1) fs).map (d :: ·) | none => none else none
def SQ (P:Program) (t:TypeId):Option (List Kd):=match P.underlying t with
  | some (.struct fs)=>if P.stoodInHeld t || P.eqGuardType P.depth t then none else Yr P 0 fs.toList
  | _=>none
def K3 (op:BinOp):List Kd→List V→List V→(V→St→Prop)→St→Prop
  | [],[],[],K,σ=>Jn op true K σ
  | .s::ks,.str a::l,.str b::r,K,σ=>(a=b→K3 op ks l r K σ)∧(a≠b→Jn op false K σ)
  | .b::ks,.bool a::l,.bool b::r,K,σ=>(a=b→K3 op ks l r K σ)∧(a≠b→Jn op false K σ)
  | .i _::ks,.int k a::l,.int k' b::r,K,σ=>k=k'∧(a=b→K3 op ks l r K σ)∧(a≠b→Jn op false K σ)
  | _,_,_,_,_=>False
theorem M8 {P:Program} {t:TypeId} {d:Kd} (h:WK P t=some d) {xs:Array Value} {k:Nat} {v:Value} (hv:xs[k]?=some v) (w:World):(part t xs k).run P w= .ok v w:=by
  unfold WK at h
  split at h
  . rename_i hu;simp [part,isAgg,run_underlying hu,hv]
  . rename_i hu;simp [part,isAgg,run_underlying hu,hv]
  . rename_i k hu;simp [part,isAgg,run_underlying hu,hv]
  . cases h
theorem Ys {P:Program} {w:World} {I:Nat→Prop} {bl:Nat→Option BI} {op:BinOp} {K:V→St→Prop} {σ:St} {m:Nat} {xs ys:List Value}:
    ∀(ks:List Kd) (k:Nat) (fs:List Field) (l r:List V),Yr P k fs=some ks→(∀(i:Nat) (x:V),l[i]?=some x→∃v,xs[k+i]?=some v∧Rep w I bl v x)→(∀(i:Nat) (x:V),r[i]?=some x→∃v,ys[k+i]?=some v∧Rep w I bl v x)→K3 op ks l r K σ→
      ∃b,Jn op b K σ∧(Op.eqFields (m+1) xs.toArray ys.toArray fs).run P w= .ok b w:=by
  intro ks
  induction ks with
  | nil=>
    intro k fs l r hs hx hy h
    have hfs:fs=[]:=by
      cases fs with
      | nil=>rfl
      | cons f fs=>
        simp only [Yr] at hs
        split at hs
        . split at hs
          . cases hq:Yr P (k+1) fs<;>simp [hq] at hs
          . cases hs
        . cases hs
    subst hfs
    match l,r,h with
    | [],[],h=>exact ⟨true,h,by simp [Op.eqFields]⟩
    | _::_,_,h=>simp [K3] at h
    | [],_::_,h=>simp [K3] at h
  | cons d ks ih=>
    intro k fs l r hs hx hy h
    obtain ⟨f, fs', rfl, hnm, hoff, hkd, hs'⟩ : ∃ f fs', fs = f :: fs' ∧ f.name ≠ "_" ∧ f.offset = k ∧ WK P f.type = some d ∧ Yr P (k + 1) fs' = some ks := by
      cases fs with
      | nil=>simp [Yr] at hs
      | cons f fs=>
        simp only [Yr] at hs
        split at hs
        . rename_i hc
          split at hs
          . rename_i d' hd
            cases hq:Yr P (k+1) fs with
            | none=>simp [hq] at hs
            | some q=>
              simp [hq] at hs
              obtain ⟨rfl,rfl⟩:=hs
              exact ⟨f,fs,rfl,hc.1,hc.2,hd,hq⟩
          . cases hs
        . cases hs
    have tail:∀{c:V} {l':List V} {zs:List Value},(∀(i:Nat) (x:V),(c::l')[i]?=some x→∃v,zs[k+i]?=some v∧Rep w I bl v x)→∀(i:Nat) (x:V),l'[i]?=some x→∃v,zs[k+1+i]?=some v∧Rep w I bl v x:=fun h i x hi=>by
      have:=h (i+1) x (by simpa using hi)
      rwa [show k+(i+1)=k+1+i by omega] at this
    have fin:∀(c e:V) (l' r':List V) (p:Prop),(c::l')=l→(e::r')=r→(∀v u,Rep w I bl v c→Rep w I bl u e→∃q,(Op.equalIn (m+1) f.type v u).run P w= .ok q w∧(q=true↔p))→(p→K3 op ks l' r' K σ)→(¬p→Jn op false K σ)→
        ∃b,Jn op b K σ∧(Op.eqFields (m+1) xs.toArray ys.toArray (f::fs')).run P w= .ok b w:=by
      rintro c e l' r' p rfl rfl hq ht hf
      obtain ⟨v,hv1,hv2⟩:=hx 0 c rfl
      obtain ⟨u,hu1,hu2⟩:=hy 0 e rfl
      rw [Nat.add_zero] at hv1 hu1
      obtain ⟨q,hq1,hq2⟩:=hq v u hv2 hu2
      have r1:=M8 (P:=P) (xs:=xs.toArray) (k:=f.offset) hkd (v:=v) (by rw [hoff];simpa using hv1) w
      have r2:=M8 (P:=P) (xs:=ys.toArray) (k:=f.offset) hkd (v:=u) (by rw [hoff];simpa using hu1) w
      cases q with
      | true=>
        obtain ⟨b,h1,h2⟩:=ih (k+1) fs' l' r' hs' (tail hx) (tail hy) (ht (hq2.1 rfl))
        refine ⟨b,h1,?_⟩
        simp only [Op.eqFields]
        rw [if_pos hnm]
        simp only [Sem.run_bind,r1,r2,hq1,Result.andThen_ok,Bool.not_true,Bool.false_eq_true,if_false]
        exact h2
      | false=>
        refine ⟨false,hf (fun hp=>by have:=hq2.2 hp;cases this),?_⟩
        simp only [Op.eqFields]
        rw [if_pos hnm]
        simp only [Sem.run_bind,r1,r2,hq1,Result.andThen_ok,Bool.not_false,if_true,Sem.run_pure]
    have hun:=hkd
    unfold WK at hun
    match d,l,r,h with
    | .s,.str a::l',.str b::r',h=>
      simp only [K3] at h
      split at hun
      . rename_i hu
        refine fin _ _ l' r' (a=b) rfl rfl (fun v u hv hu'=>?_) h.1 h.2
        obtain ⟨s,rfl,rfl,_⟩:=hv.inv_str
        obtain ⟨t,rfl,rfl,_⟩:=hu'.inv_str
        refine ⟨_,run_equalIn_string w m f.type s t hu,?_⟩
        rw [ByteArray.toList_eq,ByteArray.toList_eq]
        simp
      all_goals simp at hun
    | .b,.bool a::l',.bool b::r',h=>
      simp only [K3] at h
      split at hun
      . simp at hun
      . rename_i hu
        refine fin _ _ l' r' (a=b) rfl rfl (fun v u hv hu'=>?_) h.1 h.2
        rw [hv.inv_bool,hu'.inv_bool]
        exact ⟨_,run_equalIn_bool' w m f.type a b hu,by simp⟩
      all_goals simp at hun
    | .i kk,.int k1 a::l',.int k2 b::r',h=>
      simp only [K3] at h
      obtain ⟨rfl,h1,h2⟩:=h
      split at hun
      . simp at hun
      . simp at hun
      . rename_i k3 hu
        refine fin _ _ l' r' (a=b) rfl rfl (fun v u hv hu'=>?_) h1 h2
        rw [hv.inv_int,hu'.inv_int]
        exact ⟨_,run_equalIn_int w m f.type k1 k3 a b hu,by simp⟩
      . simp at hun
    | .s,[],_,h=>simp [K3] at h
    | .b,[],_,h=>simp [K3] at h
    | .i _,[],_,h=>simp [K3] at h
theorem c9 {C:Ctx} {o:Oper} {σ:St} {K:V→St→Prop} {op:BinOp} {t t':TypeId} {x y:Operand} (ho:o.op= .binOp op t x y t')
    (hv:∀a w I bl,RP C σ a w I bl→∃b,Jn op b K σ∧(Op.equal t (a.eval x) (a.eval y)).run C.P w= .ok b w∧(∀op',(eqGuard op' t x y (a.eval x) (a.eval y)).run C.P w= .ok () w)∧
      (binOp .eql t (a.eval x) (a.eval y)).run C.P w= .ok (.bool b) w∧(binOp .neq t (a.eval x) (a.eval y)).run C.P w= .ok (.bool (!b)) w):BR C o σ K:=by
  refine Am fun a w I bl hp=>?_
  obtain ⟨b,hk,hr,hg,h1,h2⟩:=hv a w I bl hp
  unfold Jn at hk
  split at hk
  . refine ⟨.bool b,w,.bool b,σ,?_,hk,hp.relx (.pure _ _ (.bool _))⟩
    simp [execOp,ho,hg,h1]
  . refine ⟨.bool (!b),w,.bool (!b),σ,?_,hk,hp.relx (.pure _ _ (.bool _))⟩
    simp [execOp,ho,hg,h2]
  . exact hk.elim
theorem dA {C:Ctx} {o:Oper} {σ:St} {K:V→St→Prop} {op:BinOp} {t t':TypeId} {x y:Operand} (ho:o.op= .binOp op t x y t') {l r:List V} {ks:List Kd} (hx:σ.val x= .agg l) (hy:σ.val y= .agg r) (hs:SQ C.P t=some ks) (h:K3 op ks l r K σ):BR C o σ K:=by
  unfold SQ at hs
  split at hs
  . rename_i fs hu
    split at hs
    . cases hs
    . rename_i hn
      simp only [Bool.or_eq_true,not_or,Bool.not_eq_true] at hn
      refine c9 ho fun a w I bl hp=>?_
      have h1:=hp.val x;rw [hx] at h1
      have h2:=hp.val y;rw [hy] at h2
      obtain ⟨vs,e1,l1,_,r1⟩:=h1.inv_agg
      obtain ⟨us,e2,l2,_,r2⟩:=h2.inv_agg
      have hcell:∀{vs:List Value} {l:List V},vs.length=l.length→(∀(i:Nat) (v:Value) (c:V),vs[i]?=some v→l[i]?=some c→Rep w I bl v c)→∀(i:Nat) (x:V),l[i]?=some x→∃v,vs[0+i]?=some v∧Rep w I bl v x:=by
        intro vs l hl hr i x hx
        have hlt:i < vs.length:=by rw [hl];exact (List.getElem?_eq_some_iff.1 hx).1
        rw [Nat.zero_add]
        exact ⟨vs[i],List.getElem?_eq_getElem hlt,hr i _ x (List.getElem?_eq_getElem hlt) hx⟩
      obtain ⟨b,hk,hb⟩:=Ys (P:=C.P) (w:=w) (I:=I) (bl:=bl) (m:=9998) (xs:=vs) (ys:=us) ks 0 fs.toList l r hs (hcell l1 r1) (hcell l2 r2) h
      have hf:C.P.fieldsOf t=fs:=by unfold Program.fieldsOf;rw [hu]
      have hr:(Op.equal t (a.eval x) (a.eval y)).run C.P w= .ok b w:=by
        rw [e1,e2]
        have:=run_equalIn_struct (P:=C.P) w 9999 t vs.toArray us.toArray (by rw [hf];exact hu) hn.1
        rw [hf] at this
        exact this.trans hb
      refine ⟨b,hk,hr,fun op'=>?_,?_,?_⟩
      . rw [e1,e2]
        unfold eqGuard
        cases op'<;>simp [run_program,hn.2]
      . rw [e1,e2] at hr ⊢
        simp [binOp,hr]
      . rw [e1,e2] at hr ⊢
        simp [binOp,hr]
  . cases hs
def OA (P:Program) (t:TypeId) (op:BinOp) (x y:V) (K:V→St→Prop) (σ:St):Prop:=
  match x,y with
  | .agg l,.agg r=>match SQ P t with|some ks=>K3 op ks l r K σ|none=>False
  | x,y=>Kw P t op x y K σ
def RL (P:Program) (t:TypeId) (op:BinOp) (x y:V) (K:V→St→Prop) (σ:St):Prop:=
  match x,y with
  | .agg l,.agg r=>match SQ P t with|some ks=>K3 op ks l r K σ|none=>False
  | x,y=>WD P t op x y K σ
theorem Yt {C:Ctx} {o:Oper} {σ:St} {K:V→St→Prop} {op:BinOp} {t t':TypeId} {x y:Operand} (ho:o.op= .binOp op t x y t') (h:OA C.P t op (σ.val x) (σ.val y) K σ):BR C o σ K:=by
  unfold OA at h
  split at h
  . rename_i l r hx hy
    split at h
    . rename_i ks hs
      exact dA ho hx hy hs h
    . exact h.elim
  . exact Ym ho h
theorem Bk {P:Program} {t:TypeId} {op:BinOp} {x y:V} {K:V→St→Prop} {σ:St} (h:Kw P t op x y K σ):OA P t op x y K σ:=by
  unfold OA
  split
  . exact (h:False).elim
  . exact h
theorem UT {P:Program} {t:TypeId} {op:BinOp} {x y:V} {K:V→St→Prop} {σ:St} (h:RL P t op x y K σ):OA P t op x y K σ:=by
  unfold RL at h
  unfold OA
  split at h
  . exact h
  . exact UQ h
end Go.Proofs.YtkaiffheakalmaaGreatDoor
