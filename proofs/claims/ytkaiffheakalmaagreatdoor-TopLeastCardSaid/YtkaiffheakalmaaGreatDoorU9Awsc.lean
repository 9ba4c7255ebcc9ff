/- Copied, stripped. No conditions. -/
import Derived.Test.YtkaiffheakalmaaGreatDoorU9Awsb
set_option linter.unusedSimpArgs false
set_option linter.unusedVariables false
set_option maxRecDepth 100000
namespace Go.Proofs.YtkaiffheakalmaaGreatDoor
open Go.RowKit
def Wc (ms:List Nat) (o:Oper):Nat:=o.after.toList.foldl (fun m e=>if Region.binds .any e=true then m ||| (1 <<< e.on) ||| ms.getD e.on 0 else m) 0
def RV (ms:List Nat):List Oper→List Nat
  | []=>ms
  | o::r=>RV (ms++[Wc ms o]) r
def Eg (ops:Array Oper):List Nat:=RV [] ops.toList
section ahead
variable {ops:Array Oper}
def Eh (ops:Array Oper) (i j:Nat):Prop:=∀listed:Array Bool,B7 .any ops listed→(∀o,ops[i]?=some o→∀e∈o.after,Region.binds .any e=true→listed.getD e.on false=true)→listed.getD j false=true
theorem Wd {ms:List Nat} (hms:∀k m,ms[k]?=some m→∀j,m.testBit j=true→Eh ops k j) {i:Nat} {o:Oper} (ho:ops[i]?=some o) {j:Nat} (hj:(Wc ms o).testBit j=true):Eh ops i j:=by
  intro listed hc hr
  have hr:=hr o ho
  have key:∀(l:List Edge) (acc:Nat),(∀j,acc.testBit j=true→listed.getD j false=true)→(∀e∈l,Region.binds .any e=true→listed.getD e.on false=true)→
      ∀j,(l.foldl (fun m e=>if Region.binds .any e=true then m ||| (1 <<< e.on) ||| ms.getD e.on 0 else m) acc).testBit j=true→listed.getD j false=true:=by
    intro l
    induction l with
    | nil=>intro acc ha _ j hj;exact ha j hj
    | cons e l ih=>
      intro acc ha hl j hj
      rw [List.foldl_cons] at hj
      refine ih _ (fun j hj=>?_) (fun e' he'=>hl e' (by simp [he'])) j hj
      split at hj
      . rename_i hb
        have hon:=hl e (by simp) hb
        rw [Nat.testBit_or,Nat.testBit_or,Bool.or_eq_true,Bool.or_eq_true] at hj
        rcases hj with (h|h)|h
        . exact ha j h
        . rw [Nat.one_shiftLeft,Nat.testBit_two_pow] at h
          have:e.on=j:=by simpa using h
          rw [←this];exact hon
        . cases hm:ms[e.on]? with
          | none=>simp [List.getD,hm] at h
          | some m=>
            simp [List.getD,hm] at h
            exact hms _ _ hm j h listed hc (fun o' ho' e' he' hb'=>hc _ o' ho' hon e' he' hb')
      . exact ha j hj
  exact key _ 0 (fun j hj=>by simp at hj) (fun e he hb=>hr e (by simpa using he) hb) j hj
theorem NH:∀(l:List Oper) (ms:List Nat),(∀k m,ms[k]?=some m→∀j,m.testBit j=true→Eh ops k j)→(∀t,l[t]?=ops[ms.length+t]?)→∀k m,(RV ms l)[k]?=some m→∀j,m.testBit j=true→Eh ops k j
  | [],ms,h,_=>h
  | o::l,ms,h,hl=>by
    refine NH l (ms++[Wc ms o]) (fun k m hm j hj=>?_) (fun t=>by have:=hl (t+1);simpa [Nat.add_assoc,Nat.add_comm 1 t] using this)
    rcases Nat.lt_trichotomy k ms.length with hk|hk|hk
    . rw [List.getElem?_append_left hk] at hm
      exact h k m hm j hj
    . subst hk
      rw [List.getElem?_append_right (Nat.le_refl _)] at hm
      simp at hm
      subst hm
      exact Wd h (by simpa using (hl 0).symm) hj
    . rw [List.getElem?_eq_none (by simp;omega)] at hm
      cases hm
theorem DL {i j:Nat} (h:((Eg ops).getD i 0).testBit j=true):Eh ops i j:=by
  cases hm:(Eg ops)[i]? with
  | none=>simp [List.getD,hm] at h
  | some m=>
    simp [List.getD,hm] at h
    exact NH ops.toList [] (fun k m hm=>by simp at hm) (fun t=>by simp) i m hm j h
end ahead
structure SegP (ops:Array Oper) (done:Nat→Bool) (seg:List (Nat×Option Nat)) (M:Nat) (bar:Option Nat) (opt:List Nat):Prop where
  lt:∀e∈seg,e.1 < ops.size
  fresh:∀e∈seg,done e.1=false
  one:∀(k k':Nat) (e f:Nat×Option Nat),seg[k]?=some e→seg[k']?=some f→e.1=f.1→k=k'
  ready:∀(k:Nat) (e:Nat×Option Nat),seg[k]?=some e→∀o,ops[e.1]?=some o→∀x∈o.after,Region.binds .any x=true→done x.on=true∨∃f∈seg.take k,f.1=x.on
  mkA:∀(k:Nat) (e:Nat×Option Nat),seg[k]?=some e→(e.2≠none∧∀o,ops[e.1]?=some o→IJ o.op=true)∨∀f∈seg.take k,f.2≠none→Eh ops e.1 f.1
  rel:∀e∈seg,∀f∈seg,e.1≠f.1→Eh ops e.1 f.1∨Eh ops f.1 e.1∨∀o o',ops[e.1]?=some o→ops[f.1]?=some o'→o.apart ops o'=true
  dst:∀e∈seg,∀f∈seg,∀t,BC ops e.1=some t→BC ops f.1=some t→e.1=f.1
  rk:∀e∈seg,∀f∈seg,∀p,e.2=some p→f.2=some p→e.1=f.1
  rlt:∀e∈seg,∀p,e.2=some p→p < M
  rest:bar=none→∀j,j < ops.size→done j=false→(∀e∈seg,e.1≠j)→bar≠some j→∀e∈seg,Eh ops j e.1
  brest:∀b,bar=some b→∀e∈seg,¬e.1∈opt→Eh ops b e.1
  bfree:∀b,bar=some b→b < ops.size∧done b=false∧∀e∈seg,e.1≠b
  bready:∀b,bar=some b→∀o,ops[b]?=some o→∀x∈o.after,Region.binds .any x=true→done x.on=true∨∃f∈seg,f.1=x.on
theorem We {α:Type} {P Q:α→Bool} {x:α}:∀{l:List α},(∀y∈l,Q y=true→P y=true)→x∈l→P x=true→Q x=false→l.countP Q < l.countP P
  | y::l,h,hx,hp,hq=>by
    have hle:l.countP Q≤l.countP P:=List.countP_mono_left (fun z hz=>h z (by simp [hz]))
    rw [List.countP_cons,List.countP_cons]
    rcases List.mem_cons.1 hx with rfl|hx
    . rw [hp,hq];simp;omega
    . have:=We (fun z hz=>h z (by simp [hz])) hx hp hq
      have:=h y (by simp)
      cases hQ:Q y with
      | true=>rw [this hQ];simp;omega
      | false=>cases P y<;>simp<;>omega
def DM (l:List Ent) (j:Nat):Bool:=l.any fun f=>decide (f.i=j)
theorem Ei {l:List Ent} {j:Nat}:DM l j=true↔∃f∈l,f.i=j:=by simp [DM]
theorem LJ {ops:Array Oper} {ent:List Ent} {s0:St} {M:Nat} {L L':Nat→Bool} (h:∀e∈ent,L e.i=L' e.i):SE ops ent s0 M L=SE ops ent s0 M L':=by
  have h1:Cw ops ent s0.env L=Cw ops ent s0.env L':=funext fun t=>by
    unfold Cw
    have:ent.find? (fun e=>L e.i&&decide (BC ops e.i=some t))=ent.find? (fun e=>L' e.i&&decide (BC ops e.i=some t)):=DB fun e he=>by rw [h e he]
    rw [this]
  have h2:KH ent L=KH ent L':=funext fun p=>by
    unfold KH
    have:ent.find? (fun e=>L e.i&&decide (e.q=some p))=ent.find? (fun e=>L' e.i&&decide (e.q=some p)):=DB fun e he=>by rw [h e he]
    rw [this]
  unfold SE
  rw [h1,h2]
section seg
variable {C:Ctx} {ops:Array Oper} {seg:List (Nat×Option Nat)} {M:Nat} {bar:Option Nat} {opt:List Nat} {ent:List Ent} {s0:St} {Q':Exit→Act→World→Prop}
theorem EM (hent:ent.map (fun e=>(e.i,e.q))=seg) {e:Ent} (he:e∈ent):(e.i,e.q)∈seg:=by rw [←hent];exact List.mem_map.2 ⟨e,he,rfl⟩
theorem RW (hent:ent.map (fun e=>(e.i,e.q))=seg) {k:Nat} {e:Nat×Option Nat} (h:seg[k]?=some e):∃e',ent[k]?=some e'∧e'.i=e.1∧e'.q=e.2:=by
  rw [←hent,List.getElem?_map] at h
  cases hk:ent[k]? with
  | none=>rw [hk] at h;cases h
  | some e'=>rw [hk] at h;simp at h;subst h;exact ⟨e',rfl,rfl,rfl⟩
theorem Wf {done:Nat→Bool} (hS:SegP ops done seg M bar opt) (hent:ent.map (fun e=>(e.i,e.q))=seg) (hob:∀e∈ent,e.ob≠none→e.q≠none):EntOk ops ent M:=by
  have one:∀e∈ent,∀f∈ent,e.i=f.i→e=f:=fun e he f hf h=>by
    obtain ⟨k,hk⟩:=List.mem_iff_getElem?.1 he
    obtain ⟨k',hk'⟩:=List.mem_iff_getElem?.1 hf
    have:=hS.one k k' (e.i,e.q) (f.i,f.q) (by rw [←hent,List.getElem?_map,hk];rfl) (by rw [←hent,List.getElem?_map,hk'];rfl) h
    subst this
    rw [hk] at hk'
    simpa using hk'
  exact ⟨one,fun e he f hf t h1 h2=>hS.dst _ (EM hent he) _ (EM hent hf) t h1 h2,fun e he f hf p h1 h2=>one e he f hf (hS.rk _ (EM hent he) _ (EM hent hf) p h1 h2),
    fun e he p h=>hS.rlt _ (EM hent he) p h,hob⟩
theorem OE {a:Array Bool} {j:Nat} (h:j < a.size) (d d':Bool):a.getD j d=a.getD j d':=by simp [Array.getD,h]
theorem Y8 {done:Nat→Bool} (hS:SegP ops done seg M bar opt) (hdone:∀j o,ops[j]?=some o→done j=true→∀e∈o.after,Region.binds .any e=true→done e.on=true) (hdlt:∀j,done j=true→j < ops.size)
    (hent:ent.map (fun e=>(e.i,e.q))=seg) (hob:∀e∈ent,e.ob≠none→e.q≠none)
    (tr:∀k e,ent[k]?=some e→∃o,ops[e.i]?=some o∧Ub C ops o e.r e.ob (s0.heap.length+e.q.getD 0) (SE ops ent s0 M (DM (ent.take k)))∧(e.q≠none→e.ob=none→BJ ops o (SE ops ent s0 M (DM (ent.take k)))=some false)) {rest:Nat}
    (hbahead:∀b,bar=some b→∀j,j < ops.size→done j=false→(∀e∈seg,e.1≠j)→b≠j→Eh ops j b)
    (hend:bar=none→∀(F:Nat) (listed:Array Bool),rest≤F→B7 .any ops listed→listed.size=ops.size→(∀j,listed.getD j false=true↔done j=true∨∃e∈seg,e.1=j)→∀a w,Rel C (SE ops ent s0 M (fun _=>true)) a w→wpAny C.P .any ops Q' F listed a w)
    (hbar:∀b,bar=some b→1≤rest∧∀(F:Nat) (listed:Array Bool),rest≤F+1+(seg.countP fun e=>!listed.getD e.1 false)→(seg.countP fun e=>!listed.getD e.1 false)+rest≤F+1→B7 .any ops listed→listed.size=ops.size→(∀j,done j=true→listed.getD j false=true)→(∀j,listed.getD j false=true→done j=true∨∃e∈seg,e.1=j)→
      (∀e∈seg,listed.getD e.1 false=false→e.1∈opt)→b∈Region.ready .any ops listed→∀a w,Rel C (SE ops ent s0 M (fun j=>listed.getD j false)) a w→wpOp C.P ops Q' b (wpAny C.P .any ops Q' F (listed.setIfInBounds b true)) a w):
    ∀(u F:Nat) (listed:Array Bool),seg.countP (fun e=>!listed.getD e.1 false)≤u→rest+u≤F→B7 .any ops listed→listed.size=ops.size→(∀j,done j=true→listed.getD j false=true)→
      (∀j,listed.getD j false=true→done j=true∨∃e∈seg,e.1=j)→∀a w,Rel C (SE ops ent s0 M (fun j=>listed.getD j false)) a w→wpAny C.P .any ops Q' F listed a w:=by
  have hE:=Wf hS hent hob
  intro u
  induction u using Nat.strongRecOn with
  | _ u ih=>
    intro F listed hu hF hc hsz hd hsub a w hr
    by_cases hallb:(∀e∈seg,listed.getD e.1 false=true)∧bar=none
    . obtain ⟨hall,hbn⟩:=hallb
      refine hend hbn F listed (by omega) hc hsz (fun j=>⟨hsub j,fun h=>?_⟩) a w ?_
      . rcases h with h|⟨e,he,rfl⟩
        . exact hd j h
        . exact hall e he
      . rw [←LJ (L:=fun j=>listed.getD j false) (fun e he=>hall _ (EM hent he))]
        exact hr
    . have hF1:1≤F:=by
        rcases Nat.eq_zero_or_pos (seg.countP fun e=>!listed.getD e.1 false) with h0|h0
        . have hall:∀e∈seg,listed.getD e.1 false=true:=fun e he=>by
            have:=List.countP_eq_zero.1 h0 e he
            simpa using this
          cases hb:bar with
          | none=>exact absurd ⟨hall,hb⟩ hallb
          | some b=>have:=(hbar b hb).1;omega
        . omega
      obtain ⟨F,rfl⟩:∃F',F=F'+1:=⟨F - 1,by omega⟩
      have hun:∀i,i < ops.size→(listed.getD i true=false↔listed.getD i false=false):=fun i hi=>by rw [OE (by rw [hsz];exact hi) true false]
      refine ⟨fun hnil=>?_,fun i hi=>?_⟩
      . -- some operation is ready
        exfalso
        by_cases hall:∀e∈seg,listed.getD e.1 false=true
        . cases hb:bar with
          | none=>exact hallb ⟨hall,hb⟩
          | some b=>
            obtain ⟨hlt,hbd,hbs⟩:=hS.bfree b hb
            have hbn:listed.getD b false=false:=by
              cases h:listed.getD b false with
              | false=>rfl
              | true=>
                rcases hsub b h with h|⟨e,he,h⟩
                . rw [hbd] at h;cases h
                . exact absurd h (hbs e he)
            have:b∈Region.ready .any ops listed:=mem_ready.2 ⟨(hun _ hlt).2 hbn,ops[b],Array.getElem?_eq_getElem hlt,fun x hx hbx=>by
              rcases hS.bready b hb _ (Array.getElem?_eq_getElem hlt) x hx hbx with h|⟨f,hf,hfx⟩
              . exact hd _ h
              . rw [←hfx];exact hall f hf⟩
            rw [hnil] at this
            cases this
        have hex:∃k:Nat,∃e:Nat×Option Nat,seg[k]?=some e∧listed.getD e.1 false=false:=by
          simp only [Classical.not_forall] at hall
          obtain ⟨e,he,hl⟩:=hall
          obtain ⟨k,hk⟩:=List.mem_iff_getElem?.1 he
          exact ⟨k,e,hk,by simpa using hl⟩
        have hmin:∀n k:Nat,k≤n→(∃e:Nat×Option Nat,seg[k]?=some e∧listed.getD e.1 false=false)→∃k:Nat,(∃e:Nat×Option Nat,seg[k]?=some e∧listed.getD e.1 false=false)∧∀k' < k,∀e:Nat×Option Nat,seg[k']?=some e→listed.getD e.1 false=true:=by
          intro n
          induction n with
          | zero=>intro k hk h;exact ⟨k,h,fun k' hk'=>by omega⟩
          | succ n ihn=>
            intro k hk h
            by_cases hb:∀k' < k,∀e,seg[k']?=some e→listed.getD e.1 false=true
            . exact ⟨k,h,hb⟩
            . simp only [Classical.not_forall] at hb
              obtain ⟨k',hk',e,he,hl⟩:=hb
              exact ihn k' (by omega) ⟨e,he,by simpa using hl⟩
        obtain ⟨k0,h0⟩:=hex
        obtain ⟨k,⟨e,he,hl⟩,hb⟩:=hmin k0 k0 (Nat.le_refl _) h0
        have hlt:=hS.lt e (List.mem_of_getElem? he)
        have:e.1∈Region.ready .any ops listed:=mem_ready.2 ⟨(hun _ hlt).2 hl,ops[e.1],Array.getElem?_eq_getElem hlt,fun x hx hbx=>by
          rcases hS.ready k e he _ (Array.getElem?_eq_getElem hlt) x hx hbx with h|⟨f,hf,hfx⟩
          . exact hd _ h
          . obtain ⟨k',hk'⟩:=List.mem_iff_getElem?.1 hf
            rw [List.getElem?_take] at hk'
            split at hk'
            . rw [←hfx];exact hb k' (by assumption) f hk'
            . cases hk'⟩
        rw [hnil] at this
        cases this
      . obtain ⟨hi1,o,ho,hi2⟩:=mem_ready.1 hi
        have hilt:i < ops.size:=(Array.getElem?_eq_some_iff.1 ho).1
        have hi0:listed.getD i false=false:=(hun i hilt).1 hi1
        have hah:∀j,Eh ops i j→listed.getD j false=true:=fun j h=>h listed hc (fun o' ho' e he hb=>by rw [ho] at ho';cases ho';exact hi2 e he hb)
        have hdi:done i=false:=by
          cases h:done i with
          | false=>rfl
          | true=>rw [hd i h] at hi0;cases hi0
        by_cases hib:bar=some i
        . obtain ⟨hr1,hbb⟩:=hbar i hib
          refine hbb F listed (by omega) (by omega) hc hsz hd hsub (fun e he hle=>?_) hi a w hr
          refine Classical.byContradiction fun hno=>?_
          rw [hah _ (hS.brest i hib e he hno)] at hle
          cases hle
        have hiseg:∃e∈seg,e.1=i:=by
          refine Classical.byContradiction fun hno=>?_
          cases hb:bar with
          | none=>
            have hall:∀e∈seg,listed.getD e.1 false=true:=fun e he=>hah _ (hS.rest hb i hilt hdi (fun f hf hfi=>hno ⟨f,hf,hfi⟩) hib e he)
            exact hallb ⟨hall,hb⟩
          | some b=>
            have hne:b≠i:=fun e=>hib (by rw [hb,e])
            have:=hah _ (hbahead b hb i hilt hdi (fun f hf hfi=>hno ⟨f,hf,hfi⟩) hne)
            obtain ⟨_,hbd,hbs⟩:=hS.bfree b hb
            rcases hsub b this with h|⟨e,he,h⟩
            . rw [hbd] at h;cases h
            . exact hbs e he h
        obtain ⟨e0,he0,hei⟩:=hiseg
        obtain ⟨k,hk⟩:=List.mem_iff_getElem?.1 he0
        obtain ⟨e,hek,hei',hq'⟩:=RW hent hk
        have hei:e.i=i:=by rw [hei',hei]
        have hem:e∈ent:=List.mem_of_getElem? hek
        obtain ⟨o',ho',hy,hsk⟩:=tr k e hek
        rw [hei,ho] at ho'
        cases ho'
        -- the state at which it was walked
        have hLk:∀f∈ent,f.i=i→DM (ent.take k) f.i=false:=fun f hf hfi=>by
          cases hm:DM (ent.take k) f.i with
          | false=>rfl
          | true=>
            obtain ⟨g,hg,hgi⟩:=Ei.1 hm
            obtain ⟨k',hk'⟩:=List.mem_iff_getElem?.1 hg
            rw [List.getElem?_take] at hk'
            split at hk'
            . rename_i hlt
              have:=hS.one k' k (g.i,g.q) (e.i,e.q) (by rw [←hent,List.getElem?_map,hk'];rfl) (by rw [←hent,List.getElem?_map,hek];rfl) (by simp only;rw [hgi,hfi,hei])
              omega
            . cases hk'
        let arr:Array Bool:=(Array.range ops.size).map fun j=>done j || DM (ent.take k) j
        have harr:∀j,arr.getD j false=true↔j < ops.size∧(done j=true∨DM (ent.take k) j=true):=fun j=>by
          by_cases hj:j < ops.size
          . simp [arr,Array.getD,hj]
          . simp [arr,Array.getD,hj]
        have hmlt:∀j,DM (ent.take k) j=true→j < ops.size∧∃k' < k,∃e',seg[k']?=some e'∧e'.1=j:=fun j hj=>by
          obtain ⟨g,hg,hgi⟩:=Ei.1 hj
          obtain ⟨k',hk'⟩:=List.mem_iff_getElem?.1 hg
          rw [List.getElem?_take] at hk'
          split at hk'
          . rename_i hlt
            have hs:seg[k']?=some (g.i,g.q):=by rw [←hent,List.getElem?_map,hk'];rfl
            exact ⟨by rw [←hgi];exact hS.lt _ (List.mem_of_getElem? hs),k',hlt,_,hs,hgi⟩
          . cases hk'
        have hready:∀(k':Nat) e',k'≤k→seg[k']?=some e'→∀o,ops[e'.1]?=some o→∀x∈o.after,Region.binds .any x=true→arr.getD x.on false=true:=fun k' e' hle he' o ho x hx hb=>by
          rcases hS.ready k' e' he' o ho x hx hb with h|⟨f,hf,hfx⟩
          . exact (harr _).2 ⟨hdlt _ h,.inl h⟩
          . obtain ⟨k2,hk2⟩:=List.mem_iff_getElem?.1 hf
            rw [List.getElem?_take] at hk2
            split at hk2
            . rename_i hlt
              obtain ⟨g,hg,hgi,_⟩:=RW hent hk2
              have:DM (ent.take k) x.on=true:=Ei.2 ⟨g,List.mem_iff_getElem?.2 ⟨k2,by rw [List.getElem?_take,if_pos (by omega)];exact hg⟩,by rw [hgi,hfx]⟩
              exact (harr _).2 ⟨(hmlt _ this).1,.inr this⟩
            . cases hk2
        have harrc:B7 .any ops arr:=fun j oj hoj hj x hx hb=>by
          rcases (harr j).1 hj with ⟨_,h|h⟩
          . have:=hdone j oj hoj h x hx hb
            exact (harr _).2 ⟨hdlt _ this,.inl this⟩
          . obtain ⟨_,k',hk',e',he',hj'⟩:=hmlt j h
            exact hready k' e' (by omega) he' oj (by rw [hj'];exact hoj) x hx hb
        have harri:∀j,Eh ops i j→arr.getD j false=true:=fun j h=>h arr harrc (fun o' ho' x hx hb=>hready k e0 (Nat.le_refl _) hk o' (by rw [←hei',hei];exact ho') x hx hb)
        have hclos:∀(A:Array Bool),B7 .any ops A→∀f:Nat,A.getD f false=true→∀j,Eh ops f j→A.getD j false=true:=fun A hA f hf j h=>h A hA (fun o' ho' x hx hb=>hA f o' ho' hf x hx hb)
        have hmove:Ub C ops o e.r e.ob (s0.heap.length+e.q.getD 0) (SE ops ent s0 M (fun j=>listed.getD j false)):=by
          refine Pg hy (fun t ht=>Y7 fun f hf hfd=>?_) ((hS.mkA k e0 hk).elim (fun hbl=>.inr ⟨hbl.2 o (by rw [←hei',hei];exact ho),hsk (by rw [hq'];exact hbl.1)⟩) fun hmk=>.inl (dN hE fun f hf hq hLf=>?_)) (fun hobn=>?_)
          . by_cases hfi:f.i=i
            . rw [hLk f hf hfi,hfi,hi0]
            . have hfe:(f.i,f.q)∈seg:=EM hent hf
              rcases hS.rel e0 he0 (f.i,f.q) hfe (by rw [←hei',hei];exact fun h=>hfi h.symm) with h|h|h
              . rw [←hei',hei] at h
                simp only at h
                rw [hah _ h]
                rcases (harr _).1 (harri _ h) with ⟨_,h2|h2⟩
                . rw [hS.fresh _ hfe] at h2;cases h2
                . exact h2
              . rw [←hei',hei] at h
                simp only at h
                have h1:listed.getD f.i false=false:=by
                  cases hl:listed.getD f.i false with
                  | false=>rfl
                  | true=>rw [hclos listed hc f.i hl i h] at hi0;cases hi0
                have h2:DM (ent.take k) f.i=false:=by
                  cases hl:DM (ent.take k) f.i with
                  | false=>rfl
                  | true=>
                    rcases (harr _).1 (hclos arr harrc f.i ((harr _).2 ⟨(hmlt _ hl).1,.inr hl⟩) i h) with ⟨_,h3|h3⟩
                    . rw [hdi] at h3;cases h3
                    . rw [←hei,hLk e hem hei] at h3;cases h3
                rw [h1,h2]
              . exfalso
                have hfo:∃of,ops[f.i]?=some of:=by
                  unfold BC at hfd
                  cases hx:ops[f.i]? with
                  | none=>rw [hx] at hfd;cases hfd
                  | some x=>exact ⟨x,rfl⟩
                obtain ⟨of,hof⟩:=hfo
                have:=h o of (by rw [←hei',hei];exact ho) hof
                refine (Oper.apart_spec this).2.2 t ?_ ht
                unfold BC at hfd
                rw [hof] at hfd
                exact hfd
          . obtain ⟨g,hg,hgi⟩:=Ei.1 hLf
            obtain ⟨k',hk'⟩:=List.mem_iff_getElem?.1 hg
            rw [List.getElem?_take] at hk'
            split at hk'
            . rename_i hlt
              have hfg:g=f:=hE.one g (List.mem_of_getElem? hk') f hf hgi
              subst hfg
              have:=hmk (g.i,g.q) (List.mem_iff_getElem?.2 ⟨k',by rw [List.getElem?_take,if_pos hlt,←hent,List.getElem?_map,hk'];rfl⟩) hq
              rw [←hei',hei] at this
              exact hah _ this
            . cases hk'
          . cases hq:e.q with
            | none=>exact absurd hq (hob e hem hobn)
            | some p=>exact Y6 hE hem hq (by rw [hei];exact hi0)
        refine Y4 hmove ho hr fun a' w' hr'=>?_
        have hdst:BC ops e.i=o.dst:=by unfold BC;rw [hei,ho];rfl
        rw [←hdst,←TG hE hem (L:=fun j=>listed.getD j false) (L':=fun j=>(listed.setIfInBounds i true).getD j false) (by rw [hei];exact hi0) (by rw [hei];simp [Array.getD,hsz,hilt]) (fun f hf hfe=>by
          have:i≠f.i:=fun h=>hfe (hE.one f hf e hem (by rw [hei,h]))
          exact getD_set_ne false this)] at hr'
        have hcl1:=We (l:=seg) (P:=fun e=>!listed.getD e.1 false) (Q:=fun e=>!(listed.setIfInBounds i true).getD e.1 false) (x:=e0) (fun y _ hy=>by
            cases hl:listed.getD y.1 false with
            | false=>rfl
            | true=>rw [getD_set_true hl] at hy;cases hy) he0 (by rw [←hei',hei,hi0];rfl) (by rw [←hei',hei];simp [Array.getD,hsz,hilt])
        refine ih (u - 1) (by omega) F (listed.setIfInBounds i true) (by omega) (by omega) (Ed hc hi) (by rw [Array.size_setIfInBounds,hsz]) (fun j hj=>getD_set_true (hd j hj)) (fun j hj=>?_) a' w' hr'
        . by_cases hji:i=j
          . subst hji;exact .inr ⟨e0,he0,by rw [←hei',hei]⟩
          . rw [getD_set_ne false hji] at hj
            exact hsub j hj
end seg
end Go.Proofs.YtkaiffheakalmaaGreatDoor
