/- Joined. No conditions. -/
import Derived.Test.YtkaiffheakalmaaGreatDoorJ9as
set_option linter.unusedSimpArgs false
set_option linter.unusedVariables false
set_option maxRecDepth 100000
namespace Go.Proofs.YtkaiffheakalmaaGreatDoor
section
variable {C:Ctx} {ops:Array Oper} {T:TT}
theorem KT {base:Nat}:∀{ent:List Ent} {s:St} {K:St→Prop},C0 C ops base ent s K→K (ent.foldl (Fh ops base) s)
 | [],s,K,h=>h
 | e::r,s,K,h=>KT (ent:=r) h.2
theorem M8 {base:Nat} {B:List Ent} {K:St→Prop}:∀{A:List Ent} {s:St},C0 C ops base A s (fun s'=>C0 C ops base B s' K)→C0 C ops base (A++B) s K
 | [],s,h=>h
 | e::A,s,h=>⟨h.1,M8 h.2⟩
theorem FR {base:Nat} {K K':St→Prop} (hK:∀s,K s→K' s):∀{A:List Ent} {s:St},C0 C ops base A s K→C0 C ops base A s K'
 | [],s,h=>hK s h
 | e::A,s,h=>⟨h.1,FR hK h.2⟩
structure Off (D:List Nat) (s t:St):Prop where
 heap:t.heap=s.heap
 len:t.env.length=s.env.length
 at':∀d,d∉D→t.env[d]?=s.env[d]?
theorem Off.getD {D:List Nat} {s t:St} (h:Off D s t) {d:Nat} (hd:d∉D):t.env.getD d .any=s.env.getD d .any:=by
 rw [List.getD_eq_getElem?_getD,List.getD_eq_getElem?_getD,h.at' d hd]
theorem Off.val {D:List Nat} {s t:St} (h:Off D s t) {x:Operand} (hx:∀d∈D,x≠.tmp d):t.val x=s.val x:=by
 cases x with
 | tmp d=>exact h.getD fun hd=>hx d hd rfl
 | _=>rfl
theorem Off.put {D:List Nat} {s t:St} (h:Off D s t) (d:Option Tmp) (x:V):Off D (s.put d x) (t.put d x):=by
 cases d with
 | none=>exact h
 | some d=>
   refine ⟨h.heap,by simp [St.put,h.len],fun e he=>?_⟩
   simp only [St.put]
   by_cases hde:d=e
   ·subst hde
    rw [List.getElem?_set,List.getElem?_set,h.len,if_pos rfl,if_pos rfl]
   ·rw [List.getElem?_set_ne hde,List.getElem?_set_ne hde]
    exact h.at' e he
theorem Off.nil {s t:St} (h:Off [] s t):t=s:=by
 obtain ⟨e,hp⟩:=s
 obtain ⟨e',hp'⟩:=t
 obtain ⟨h1,h2,h3⟩:=h
 simp only at h1 h2 h3
 subst h1
 have:e'=e:=List.ext_getElem? fun d=>h3 d (by simp)
 rw [this]
def QB (x:Operand) (d:Nat):Bool:=match x with
 | .tmp e=>!Nat.beq e d
 | _=>true
theorem O1 {x:Operand} {d:Nat} (h:QB x d=true):x≠.tmp d:=by
 rintro rfl
 simp [QB] at h
def Zw (o:Oper) (D:List Nat):Bool:=match o.op with
 | .call c=>(match c.callee with
   | .builtin .append=>(match c.args.toList,c.argTypes.toList with
     | [s,x],[_,_]=>D.all fun d=>QB s d&&QB x d
     | _,_=>false)
   | _=>false)
 | _=>false
theorem dE {o:Oper} {D:List Nat} {t0 t:St} (ha:Zw o D=true) (h:Off D t0 t) {K0:V→St→Prop} (hS:DJ C o t0 K0):DJ C o t (fun v t'=>∃s'',K0 v s''∧Off D s'' t'):=by
 unfold Zw at ha
 split at ha
 ·rename_i c ho
  obtain ⟨callee,args,ts⟩:=c
  simp only at ha
  split at ha
  ·rename_i hcal
   split at ha
   ·rename_i s x ty ty' h1 h2
    rw [List.all_eq_true] at ha
    have hs:t.val s=t0.val s:=h.val fun d hd=>O1 (Bool.and_eq_true _ _▸ha d hd).1
    have hx:t.val x=t0.val x:=h.val fun d hd=>O1 (Bool.and_eq_true _ _▸ha d hd).2
    unfold DJ at hS ⊢
    simp only [ho,h1,h2] at hS ⊢
    unfold Qt at hS ⊢
    rw [hs,hx]
    cases hei:EI C.P ty with
    | none=>rw [hei] at hS;exact hS.elim
    | some ez=>
      obtain ⟨e,z⟩:=ez
      rw [hei] at hS
      obtain ⟨a1,a2,a3⟩:=hS
      obtain ⟨els,b1,b2⟩:=RJ a3
      refine ⟨a1,a2,b2 t (fun id z els e=>by
       have:t.row id=t0.row id:=by unfold St.row;rw [h.heap]
       rw [this];exact e) _ ?_⟩
      unfold Ls at b1 ⊢
      split at b1
      ·obtain ⟨c1,c2,c3⟩:=b1
       refine ⟨c1,c2,_,by rw [h.heap];exact c3,?_⟩
       exact ⟨by simp only [h.heap],h.len,h.at'⟩
      ·rename_i id off n _
       have hrow:t.row id=t0.row id:=by unfold St.row;rw [h.heap]
       simp only [hrow]
       split at b1
       ·rename_i z' els' hr
        obtain ⟨c1,c2,c3,c4,c5⟩:=b1
        refine ⟨c1,c2,c3,c4,_,c5,?_⟩
        refine ⟨by simp only [h.heap],by simp [AQ,h.len],fun d hd=>?_⟩
        simp only [GX,List.getElem?_map,h.at' d hd]
       ·exact b1.elim
      ·exact b1.elim
   ·cases ha
  ·cases ha
 ·cases ha
def Vj (C:Ctx) (ops:Array Oper) (st:List Nat) (s:St):Prop:=∀i∈st,∃o d,ops[i]?=some o∧o.dst=some d∧RK C ops o (s.env.getD d .any) none 0 s
theorem R7 {base:Nat} {d:Nat}:∀(ent:List Ent) (s:St),(∀e∈ent,e.ob=none∧BD ops e.i≠some d)→(ent.foldl (Fh ops base) s).env[d]?=s.env[d]?
 | [],s,_=>rfl
 | e::r,s,h=>by
   obtain ⟨h1,h2⟩:=h e (by simp)
   rw [List.foldl_cons,R7 r _ fun f hf=>h f (by simp [hf])]
   unfold Fh
   rw [h1]
   cases hd:BD ops e.i with
   | none=>rfl
   | some d'=>
     have:d'≠d:=fun e=>h2 (by rw [hd,e])
     simp only [Cs,St.put]
     rw [List.getElem?_set_ne this]
theorem Vk {base:Nat}:∀(st:List Nat) (ent:List Ent) (s:St),ent.map (fun e=>(e.i,e.q))=st.map (fun i=>(i,none))→(st.map (BD ops)).Nodup→(∀i∈st,∃d,BD ops i=some d∧d < s.env.length)→
 C0 C ops base ent s (fun sf=>∀i∈st,∀d,BD ops i=some d→sf.env.getD d .any=s.env.getD d .any)→Vj C ops st s
 | [],_,_,_,_,_,_=>fun i hi=>by simp at hi
 | i::st,[],s,hm,_,_,_=>by simp at hm
 | i::st,e::ent,s,hm,hn,hd,ht=>by
   simp only [List.map_cons,List.cons.injEq,Prod.mk.injEq] at hm
   obtain ⟨⟨hi,hq⟩,hm⟩:=hm
   subst hi
   rw [List.map_cons,List.nodup_cons] at hn
   obtain ⟨d,hdi,hdl⟩:=hd e.i (by simp)
   obtain ⟨⟨o,ho,hy,hob,_⟩,ht⟩:=ht
   have hob:e.ob=none:=by
    cases h:e.ob with
    | none=>rfl
    | some x=>exact absurd hq (hob (by rw [h];simp))
   have hod:o.dst=some d:=by unfold BD at hdi;rw [ho] at hdi;exact hdi
   have hlater:∀{st:List Nat} {ent:List Ent} {s:St} {K:St→Prop},ent.map (fun e=>(e.i,e.q))=st.map (fun i=>(i,none))→C0 C ops base ent s K→∀f∈ent,f.ob=none∧f.i∈st:=by
    intro st ent
    induction ent generalizing st with
    | nil=>intro s K _ _ f hf;simp at hf
    | cons g ent ih=>
      intro s K hm ht f hf
      cases st with
      | nil=>simp at hm
      | cons j st=>
        simp only [List.map_cons,List.cons.injEq,Prod.mk.injEq] at hm
        obtain ⟨⟨h1,h2⟩,h3⟩:=hm
        rcases List.mem_cons.1 hf with rfl|hf
        ·obtain ⟨⟨_,_,_,h,_⟩,_⟩:=ht
         refine ⟨?_,by rw [h1];simp⟩
         cases hb:f.ob with
         | none=>rfl
         | some x=>exact absurd h2 (h (by rw [hb];simp))
        ·obtain ⟨a,b⟩:=ih h3 ht.2 f hf
         exact ⟨a,by simp [b]⟩
   have hl:=hlater hm ht
   have hend:=KT ht
   have hr:e.r=s.env.getD d .any:=by
    have h1:=hend e.i (by simp) d hdi
    rw [List.getD_eq_getElem?_getD,R7 (ops:=ops) (base:=base) (d:=d) ent _ fun f hf=>⟨(hl f hf).1,fun h=>hn.1 (List.mem_map.2 ⟨f.i,(hl f hf).2,by rw [h,hdi]⟩)⟩] at h1
    rw [←h1]
    unfold Fh
    rw [hob,hdi]
    simp only [Cs,St.put]
    rw [List.getElem?_set_self hdl]
    rfl
   have hnext:Fh ops base s e=s:=by
    unfold Fh
    rw [hob,hdi,hr]
    simp only [Cs,St.put]
    obtain ⟨env,hp⟩:=s
    simp only at hdl ⊢
    congr 1
    apply List.ext_getElem?
    intro k
    by_cases hk:d=k
    ·subst hk
     rw [List.getElem?_set_self hdl,List.getD_eq_getElem?_getD,List.getElem?_eq_getElem hdl]
     rfl
    ·rw [List.getElem?_set_ne hk]
   rw [hnext] at ht
   have ih:=Vk st ent s hm hn.2 (fun i hi=>hd i (by simp [hi])) (FR (fun sf h i hi=>h i (by simp [hi])) ht)
   intro j hj
   rcases List.mem_cons.1 hj with rfl|hj
   ·refine ⟨o,d,ho,hod,?_⟩
    rw [hob,hr] at hy
    exact hy
   ·exact ih j hj
def IF (ops:Array Oper) (L:List Nat):List Nat:=L.filterMap (BD ops)
def iU (ops:Array Oper):List Nat→Bool
 | []=>true
 | i::V=>(match ops[i]? with|some o=>(IF ops (i::V)).all (fun d=>!(o.looksAt ops).contains d)|none=>false)&&iU ops V
theorem M9 {base M:Nat} {s:St} {st:List Nat} (hst:Vj C ops st s):∀(V:List Nat) (t:St),(∀i∈V,i∈st)→iU ops V=true→Off (IF ops V) ⟨s.env,s.heap++List.replicate M none⟩ t→
 ∃ent:List Ent,ent.map (fun e=>(e.i,e.q))=V.map (fun i=>(i,none))∧C0 C ops base ent t (fun s'=>s'=⟨s.env,s.heap++List.replicate M none⟩)
 | [],t,_,_,h=>⟨[],rfl,h.nil⟩
 | i::V,t,hV,hok,h=>by
   obtain ⟨o,d,ho,hod,hy⟩:=hst i (hV i (by simp))
   unfold iU at hok
   rw [ho] at hok
   simp only [Bool.and_eq_true,List.all_eq_true] at hok
   have hdi:BD ops i=some d:=by unfold BD;rw [ho];exact hod
   have hds:IF ops (i::V)=d::IF ops V:=by simp [IF,hdi]
   have hy':RK C ops o (s.env.getD d .any) none base t:=by
    refine RL (s:=s) (p:=base) hy (fun x hx=>?_) (.inl fun id z els e=>?_) (fun h=>absurd rfl h)
    ·exact h.getD (D:=IF ops (i::V)) (s:=⟨s.env,s.heap++List.replicate M none⟩) fun hd=>by
      have:=hok.1 x hd
      simp only [Bool.not_eq_true',List.contains_eq_any_beq] at this
      rw [List.any_eq_false] at this
      exact this x hx (by simp)
    ·unfold St.row at e ⊢
     rw [h.heap]
     have hk:∀ob,s.heap[id]?=some ob→(s.heap++List.replicate M none)[id]?=some ob:=fun ob hb=>by
      rw [List.getElem?_append_left (List.getElem?_eq_some_iff.1 hb).1];exact hb
     split at e
     ·rename_i z0 els0 hb
      simp only [hk _ hb]
      exact e
     ·cases e
   obtain ⟨ent,h1,h2⟩:=M9 hst V (t.put (some d) (s.env.getD d .any)) (fun j hj=>hV j (by simp [hj])) hok.2 (by
    refine ⟨h.heap,by simp [St.put,h.len],fun k hk=>?_⟩
    simp only [St.put]
    by_cases hkd:d=k
    ·subst hkd
     have hl:=h.len
     simp only at hl
     rw [List.getElem?_set,if_pos rfl,hl]
     split
     ·rename_i hlt
      rw [List.getElem?_eq_getElem hlt,List.getD_eq_getElem?_getD,List.getElem?_eq_getElem hlt]
      rfl
     ·rw [List.getElem?_eq_none (by omega)]
    ·rw [List.getElem?_set_ne hkd]
     exact h.at' k (by rw [hds];simp [hk,Ne.symm hkd]))
   refine ⟨⟨i,none,s.env.getD d .any,none⟩::ent,by simp [h1],⟨o,ho,?_,fun h=>absurd rfl h,fun h=>absurd rfl h⟩,?_⟩
   ·exact hy'
   ·have:Fh ops base t ⟨i,none,s.env.getD d .any,none⟩=t.put (some d) (s.env.getD d .any):=by
     unfold Fh
     simp only [hdi,Cs]
    rw [this]
    exact h2
def IG (st:List Nat) (i:Nat):Bool:=st.contains i
def iV (C:Ctx) (ops:Array Oper) (K:St→Prop) (g:Sg) (us0:List (List Nat)) (st:List Nat) (b:Nat) (r:List Sg) (s:St):Prop:=
 ∃ent:List Ent,ent.map (fun e=>(e.i,e.q))=B4 g.ql [] g.seg∧C0 C ops s.heap.length ent ⟨s.env,s.heap++List.replicate g.M none⟩ (fun s'=>
  ∀U∈us0,∃o K0,ops[b]?=some o∧DJ C o (Dl ops s.env (B4 g.ql [] g.seg) s.heap.length U s') K0∧∀x s'',K0 x s''→Vj C ops st (s''.put o.dst x)∧RO C ops K r U (s''.put o.dst x))
def QC (ops:Array Oper) (U V W:List Nat):List Sg→Bool
 | []=>V.isEmpty
 | g2::_=>decide (B4 g2.ql U g2.seg=V.map (fun i=>(i,none))++B4 g2.ql W g2.seg)&&(X0 g2 U).all fun U'=>(X0 g2 W).contains U'&&U'.all fun i=>decide (VD (B4 g2.ql W g2.seg) i=VD (B4 g2.ql U g2.seg) i)&&(IF ops [i]).all fun d=>!(IF ops V).contains d
def fM (ops:Array Oper) (g:Sg) (us0:List (List Nat)) (st:List Nat) (b:Nat) (r:List Sg) (U:List Nat):Bool:=
 us0.contains (U.filter fun i=>!IG st i)&&iU ops (U.filter (IG st))&&((U.filter (IG st)).all fun i=>(VD (B4 g.ql [] g.seg) i).isNone)&&
  (match ops[b]? with|some o=>Zw o (IF ops (U.filter (IG st)))|none=>false)&&QC ops U (U.filter (IG st)) (U.filter fun i=>!IG st i) r
theorem W8 {env0 env1:List V} {seg seg':List (Nat×Option Nat)} {base:Nat}:∀(U:List Nat) (s:St),(∀i∈U,∀d,BD ops i=some d→env0.getD d .any=env1.getD d .any)→(∀i∈U,VD seg i=VD seg' i)→Dl ops env0 seg base U s=Dl ops env1 seg' base U s:=by
 intro U s h1 h2
 unfold Dl
 have e1:CW ops env0 U s.env=CW ops env1 U s.env:=by
  induction U with
  | nil=>rfl
  | cons i U ih=>
    have:=ih (fun j hj=>h1 j (by simp [hj])) (fun j hj=>h2 j (by simp [hj]))
    unfold CW
    cases hd:BD ops i with
    | none=>exact this
    | some d=>simp only [this,h1 i (by simp) d hd]
 have e2:BZ seg base U s.heap=BZ seg' base U s.heap:=by
  clear h1 e1
  induction U with
  | nil=>rfl
  | cons i U ih=>
    have:=ih (fun j hj=>h2 j (by simp [hj]))
    unfold BZ
    rw [h2 i (by simp),this]
 rw [e1,e2]
theorem NA {env0:List V} {seg:List (Nat×Option Nat)} {base:Nat} {st:List Nat} (s:St):∀U:List Nat,((U.filter (IG st)).all fun i=>(VD seg i).isNone)=true→Off (IF ops (U.filter (IG st))) (Dl ops env0 seg base (U.filter fun i=>!IG st i) s) (Dl ops env0 seg base U s)
 | [],_=>⟨rfl,rfl,fun _ _=>rfl⟩
 | i::U,h=>by
   cases hi:IG st i with
   | true=>
     rw [List.filter_cons_of_pos hi] at h ⊢
     rw [List.filter_cons_of_neg (by simp [hi])]
     rw [List.all_cons,Bool.and_eq_true,Option.isNone_iff_eq_none] at h
     have ih:=NA (env0:=env0) (base:=base) s U h.2
     refine ⟨?_,?_,fun d hd=>?_⟩
     ·rw [←ih.heap]
      show BZ seg base (i::U) s.heap=BZ seg base U s.heap
      rw [BZ,h.1]
     ·rw [←ih.len]
      show (CW ops env0 (i::U) s.env).length=(CW ops env0 U s.env).length
      rw [Bd,Bd]
     ·have hd':d∉IF ops (U.filter (IG st)):=fun hm=>hd (by
       unfold IF at hm ⊢
       rw [List.filterMap_cons]
       cases BD ops i<;>simp [hm])
      rw [←ih.at' d hd']
      show (CW ops env0 (i::U) s.env)[d]?=(CW ops env0 U s.env)[d]?
      rw [CW]
      cases hdi:BD ops i with
      | none=>rfl
      | some e=>
        have:e≠d:=fun e'=>hd (by unfold IF;rw [List.filterMap_cons,hdi,e'];simp)
        simp only
        rw [List.getElem?_set_ne this]
   | false=>
     rw [List.filter_cons_of_neg (by simp [hi])] at h ⊢
     rw [List.filter_cons_of_pos (by simp [hi])]
     have ih:=NA (env0:=env0) (base:=base) s U h
     have ih1:BZ seg base U s.heap=BZ seg base (U.filter fun i=>!IG st i) s.heap:=ih.heap
     have ih3:∀d,d∉IF ops (U.filter (IG st))→(CW ops env0 U s.env)[d]?=(CW ops env0 (U.filter fun i=>!IG st i) s.env)[d]?:=ih.at'
     refine ⟨?_,?_,fun d hd=>?_⟩
     ·show BZ seg base (i::U) s.heap=BZ seg base (i::_) s.heap
      rw [BZ,BZ,ih1]
     ·show (CW ops env0 (i::U) s.env).length=(CW ops env0 (i::_) s.env).length
      rw [Bd,Bd]
     ·show (CW ops env0 (i::U) s.env)[d]?=(CW ops env0 (i::_) s.env)[d]?
      rw [CW,CW]
      cases hdi:BD ops i with
      | none=>exact ih3 d hd
      | some e=>
        simp only
        rw [List.getElem?_set,List.getElem?_set,Bd,Bd,ih3 d hd]
theorem Zx {K:St→Prop} {st U V W:List Nat} {s t:St} (hst:Vj C ops st s) (hV:∀i∈V,i∈st) (hok:iU ops V=true) (ho:Off (IF ops V) s t):∀{r:List Sg},QC ops U V W r=true→RO C ops K r W s→RO C ops K r U t
 | [],hn,h=>by
   obtain rfl:V=[]:=by simpa [QC] using hn
   rw [ho.nil]
   exact h
 | g2::r2,hn,h=>by
   simp only [QC,Bool.and_eq_true,decide_eq_true_eq] at hn
   obtain ⟨n1,n2⟩:=hn
   obtain ⟨ent0,h1,h2⟩:=h
   have hl:t.heap.length=s.heap.length:=by rw [ho.heap]
   obtain ⟨entV,e1,e2⟩:=M9 (base:=t.heap.length) (M:=g2.M) hst V ⟨t.env,t.heap++List.replicate g2.M none⟩ hV hok ⟨by simp only [ho.heap],ho.len,ho.at'⟩
   refine ⟨entV++ent0,by rw [List.map_append,e1,h1,n1],M8 (FR (fun s' hs'=>?_) e2)⟩
   subst hs'
   rw [hl]
   refine FR (fun s' hs'=>?_) h2
   cases hb:g2.bar with
   | none=>simp only [hb] at hs' ⊢;exact hs'
   | some b2=>
     simp only [hb] at hs' ⊢
     intro U' hU'
     have n2':=n2
     rw [List.all_eq_true] at n2'
     obtain ⟨o,K0,a1,a2,a3⟩:=hs' U' (by
      have h:=n2' U' hU'
      rw [Bool.and_eq_true] at h
      simpa using h.1)
     have n3:=n2' U' hU'
     rw [Bool.and_eq_true] at n3
     have n3:=n3.2
     rw [List.all_eq_true] at n3
     refine ⟨o,K0,a1,?_,a3⟩
     rw [W8 U' s' (env0:=s.env) (env1:=t.env) (seg':=B4 g2.ql U g2.seg) (fun i hi d hd=>?_) (fun i hi=>?_)] at a2
     ·exact a2
     ·have:=n3 i hi
      simp only [Bool.and_eq_true,decide_eq_true_eq,List.all_eq_true] at this
      refine (ho.getD fun hm=>?_).symm
      have h3:=this.2 d (by simp [IF,hd])
      simp [hm] at h3
     ·have:=n3 i hi
      simp only [Bool.and_eq_true,decide_eq_true_eq] at this
      exact this.1
theorem W9 {K:St→Prop} {g:Sg} {us0:List (List Nat)} {st:List Nat} {b:Nat} {r:List Sg} {s:St} (hb:g.bar=some b) (hc:g.us.all (fM ops g us0 st b r)=true) (h:iV C ops K g us0 st b r s):RO C ops K (g::r) [] s:=by
 obtain ⟨ent,h1,h2⟩:=h
 refine ⟨ent,h1,FR (fun s' hs'=>?_) h2⟩
 simp only [hb]
 intro U hU
 rw [List.all_eq_true] at hc
 have hc:=hc U (IU hU)
 simp only [fM,Bool.and_eq_true] at hc
 obtain ⟨⟨⟨⟨c1,c2⟩,c3⟩,c4⟩,c5⟩:=hc
 obtain ⟨o,K0,a1,a2,a3⟩:=hs' (U.filter fun i=>!IG st i) (by simpa using c1)
 rw [a1] at c4
 refine ⟨o,_,a1,dE c4 (NA s' U c3) a2,?_⟩
 rintro x t'' ⟨s'',hk,hoff⟩
 obtain ⟨q1,q2⟩:=a3 x s'' hk
 exact BM (Zx q1 (fun i hi=>by
  have:=(List.mem_filter.1 hi).2
  simpa [IG] using this) c2 (hoff.put o.dst x) c5 q2)
structure EqL (σ σ3:ES) (ds:List Nat):Prop where
 out:ds.map σ3.get=ds.map σ.get
 lt:(ds.all fun d=>Nat.blt d σ.n)=true
def Vl (all:List Oper) (st:List Nat):List Nat:=st.filterMap fun i=>(all[i]?).bind (·.dst)
def Tu (T:TT) (C:Ctx) (all:List Oper) (K:ES→Prop) (g:Sg) (us0:List (List Nat)) (st:List Nat) (b:Nat) (r:List Sg) (σ:ES):Prop:=
 nF σ.heap.length fun base=>fH (σ.heap++List.replicate g.M none) fun h=>Er σ h fun σ1=>Yt T C all base (fun σ2=>Nq all[b]? fun o=>Yu us0 fun U=>HN all σ U σ2.u fun u2=>fH (BZ (B4 g.ql [] g.seg) base U σ2.heap) fun h2=>
  BF T C false o.op (fun x σ'=>fV x fun x=>E0 σ' o.dst x fun σ''=>Both (Yt T C all 0 (fun σ3=>EqL σ'' σ3 (Vl all st)) (st.map fun i=>(i,none)) σ'') (eSegs T C all K r U σ'')) ⟨σ2.n,u2,h2⟩) (B4 g.ql [] g.seg) σ1
def iW (ops:Array Oper) (g:Sg) (us0:List (List Nat)) (st:List Nat) (b:Nat) (r:List Sg):Bool:=
 decide (g.bar=some b)&&g.us.all (fM ops g us0 st b r)&&decide ((st.map (BD ops)).Nodup)&&st.all fun i=>(BD ops i).isSome
theorem XA (hE:EOk T C) {K:ES→Prop} {g:Sg} {us0:List (List Nat)} {st:List Nat} {b:Nat} {r:List Sg} {σ:ES} (hn:(st.map (BD ops)).Nodup) (hsm:(st.all fun i=>(BD ops i).isSome)=true) (h:Tu T C ops.toList K g us0 st b r σ):
 iV C ops (fun s=>∃h:List (Option Ob),(∀(i:Nat) (o:Ob),h[i]?=some (some o)↔s.heap[i]?=some (some o))∧Ks K ⟨s.env,h⟩) g us0 st b r σ.st:=by
 rw [Tu,MD,A7,Bx] at h
 refine JK hE (fun σ2 h2=>?_) (B4 g.ql [] g.seg) _ h
 obtain ⟨o,ho,h2⟩:=BW h2
 rw [Array.getElem?_toList] at ho
 intro U hU
 obtain ⟨u2,h3,he⟩:=E9 (n:=σ2.n) (h:=σ2.heap) U σ2.u _ (JJ h2 U hU)
 rw [A7] at h3
 have hst:Dl ops σ.st.env (B4 g.ql [] g.seg) σ.st.heap.length U σ2.st=(⟨σ2.n,u2,BZ (B4 g.ql [] g.seg) σ.heap.length U σ2.heap⟩:ES).st:=by
  unfold Dl ES.st
  congr 1
  exact he.symm
 have hS:=(Dj hE.all h3).1
 rw [←hst] at hS
 refine ⟨o,_,ho,hS,?_⟩
 rintro x s'' ⟨σ',rfl,h3⟩
 rw [GA,CN] at h3
 rw [DU]
 obtain ⟨h4,h5⟩:=h3
 refine ⟨?_,JL hE r U _ h5⟩
 have hds:∀i∈st,∀d,BD ops i=some d→d∈Vl ops.toList st:=fun i hi d hd=>by
  unfold Vl
  rw [List.mem_filterMap]
  refine ⟨i,hi,?_⟩
  rw [Array.getElem?_toList]
  exact hd
 have hlt:∀i∈st,∀d,BD ops i=some d→(ES.put σ' o.dst x).n > d:=by
  intro i hi d hd
  obtain ⟨ent,_,ht⟩:=JK hE (K':=fun _=>((Vl ops.toList st).all fun d=>Nat.blt d (ES.put σ' o.dst x).n)=true) (fun σ3 h=>h.lt) _ _ h4
  have:=KT ht
  rw [List.all_eq_true] at this
  have:=this d (hds i hi d hd)
  simpa using this
 obtain ⟨ent,e1,e2⟩:=JK hE (K':=fun sf=>∀i∈st,∀d,BD ops i=some d→sf.env.getD d .any=(ES.put σ' o.dst x).st.env.getD d .any) (fun σ3 h i hi d hd=>by
  have h1:=h.out
  rw [List.map_inj_left] at h1
  have:=h1 d (hds i hi d hd)
  show σ3.env.getD d .any=(ES.put σ' o.dst x).env.getD d .any
  rw [GW,GW]
  exact this) _ _ h4
 rw [List.all_eq_true] at hsm
 refine Vk st ent _ e1 hn (fun i hi=>?_) e2
 obtain ⟨d,hd⟩:=Option.isSome_iff_exists.1 (hsm i hi)
 refine ⟨d,hd,?_⟩
 have:=hlt i hi d hd
 show d < (ES.env _).length
 unfold ES.env
 simpa using this
theorem EA (hE:EOk T C) {K:ES→Prop} {σ:ES} (g:Sg) (r:List Sg) (us0:List (List Nat)) (st:List Nat) (b:Nat) (hp:(IW ops (CO ops) 0 [] (g::r)&&Nat.ble (OY (g::r)) ops.size&&(g::r).all (fun g=>decide g.opt.Nodup)&&iW ops g us0 st b r)=true)
 (h:Tu T C ops.toList K g us0 st b r σ):DrawN T C ops K σ:=by
 refine ⟨fun id a w hr=>?_⟩
 obtain ⟨I,bl,hp'⟩:=hr.parts
 have hp'':RP C σ.st a { w with drawn:=w.drawn+1} I bl:=hp'.drew
 refine wp_region_any hE.any ?_
 rw [Bool.and_eq_true,Bool.and_eq_true,Bool.and_eq_true,Nat.ble_eq] at hp
 obtain ⟨⟨⟨p1,p2⟩,p3⟩,p4⟩:=hp
 simp only [iW,Bool.and_eq_true,decide_eq_true_eq] at p4
 obtain ⟨⟨⟨q1,q2⟩,q3⟩,q4⟩:=p4
 refine JI (fun s a w hr hk=>?_) (g::r) 0 [] p1 p3 (fun j o ho h=>by simp at h) (fun j h=>by simp at h) σ.st (W9 q1 q2 (XA hE q3 q4 h)) ops.size (Array.replicate ops.size false) (by simpa using p2) Fe (by simp) (fun j=>by
  by_cases hj:j < ops.size<;>simp [Array.getD,hj]) a _ hp''.rel
 obtain ⟨h',he,σ',hs,hk⟩:=hk
 refine ⟨⟨s.env,h'⟩,⟨rfl,σ',hs,hk⟩,D4 hr (fun k x hx=>.inl ((he k x).1 hx)) (fun k x hx=>.inl ((he k x).2 hx))⟩
end
end Go.Proofs.YtkaiffheakalmaaGreatDoor
