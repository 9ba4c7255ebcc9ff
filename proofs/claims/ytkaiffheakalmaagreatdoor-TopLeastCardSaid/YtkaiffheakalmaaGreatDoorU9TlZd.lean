/- Copied, stripped. No conditions. -/
import Derived.Test.YtkaiffheakalmaaGreatDoorU9TlZa
import Derived.Test.YtkaiffheakalmaaGreatDoorU9TlZb
import Derived.Test.YtkaiffheakalmaaGreatDoorU9Awy
set_option linter.unusedSimpArgs false
set_option linter.unusedVariables false
set_option maxRecDepth 100000
namespace Go.Proofs.YtkaiffheakalmaaGreatDoor
section
variable {C:Ctx} {ops:Array Oper} {T:TT}
theorem JP {base:Nat}:∀{ent:List Ent} {s:St} {K:St→Prop},C6 C ops base ent s K→K (ent.foldl (GG ops base) s)
  | [],s,K,h=>h
  | e::r,s,K,h=>JP (ent:=r) h.2
theorem Lt {base:Nat} {B:List Ent} {K:St→Prop}:∀{A:List Ent} {s:St},C6 C ops base A s (fun s'=>C6 C ops base B s' K)→C6 C ops base (A++B) s K
  | [],s,h=>h
  | e::A,s,h=>⟨h.1,Lt h.2⟩
theorem Et {base:Nat} {K K':St→Prop} (hK:∀s,K s→K' s):∀{A:List Ent} {s:St},C6 C ops base A s K→C6 C ops base A s K'
  | [],s,h=>hK s h
  | e::A,s,h=>⟨h.1,Et hK h.2⟩
structure Off (D:List Nat) (s t:St):Prop where
  heap:t.heap=s.heap
  len:t.env.length=s.env.length
  at':∀d,d∉D→t.env[d]?=s.env[d]?
theorem Off.getD {D:List Nat} {s t:St} (h:Off D s t) {d:Nat} (hd:d∉D):t.env.getD d .any=s.env.getD d .any:=by
  rw [List.getD_eq_getElem?_getD,List.getD_eq_getElem?_getD,h.at' d hd]
theorem Off.val {D:List Nat} {s t:St} (h:Off D s t) {x:Operand} (hx:∀d∈D,x≠.tmp d):t.val x=s.val x:=by
  cases x with
  | tmp d=>exact h.getD fun hd=>hx d hd rfl
  | _=>rfl
theorem Off.put {D:List Nat} {s t:St} (h:Off D s t) (d:Option Tmp) (x:V):Off D (s.put d x) (t.put d x):=by
  cases d with
  | none=>exact h
  | some d=>
    refine ⟨h.heap,by simp [St.put,h.len],fun e he=>?_⟩
    simp only [St.put]
    by_cases hde:d=e
    . subst hde
      rw [List.getElem?_set,List.getElem?_set,h.len,if_pos rfl,if_pos rfl]
    . rw [List.getElem?_set_ne hde,List.getElem?_set_ne hde]
      exact h.at' e he
theorem Off.nil {s t:St} (h:Off [] s t):t=s:=by
  obtain ⟨e,hp⟩:=s
  obtain ⟨e',hp'⟩:=t
  obtain ⟨h1,h2,h3⟩:=h
  simp only at h1 h2 h3
  subst h1
  have:e'=e:=List.ext_getElem? fun d=>h3 d (by simp)
  rw [this]
def OU (x:Operand) (d:Nat):Bool:=match x with
  | .tmp e=>!Nat.beq e d
  | _=>true
theorem Nk {x:Operand} {d:Nat} (h:OU x d=true):x≠.tmp d:=by
  rintro rfl
  simp [OU] at h
def XN (o:Oper) (D:List Nat):Bool:=match o.op with
  | .call c=>(match c.callee with
    | .builtin .append=>(match c.args.toList,c.argTypes.toList with
      | [s,x],[_,_]=>D.all fun d=>OU s d&&OU x d
      | _,_=>false)
    | _=>false)
  | _=>false
theorem Zi {o:Oper} {D:List Nat} {t0 t:St} (ha:XN o D=true) (h:Off D t0 t) {K0:V→St→Prop} (hS:C4 C o t0 K0):C4 C o t (fun v t'=>∃s'',K0 v s''∧Off D s'' t'):=by
  unfold XN at ha
  split at ha
  . rename_i c ho
    obtain ⟨callee,args,ts⟩:=c
    simp only at ha
    split at ha
    . rename_i hcal
      split at ha
      . rename_i s x ty ty' h1 h2
        rw [List.all_eq_true] at ha
        have hs:t.val s=t0.val s:=h.val fun d hd=>Nk (Bool.and_eq_true _ _▸ha d hd).1
        have hx:t.val x=t0.val x:=h.val fun d hd=>Nk (Bool.and_eq_true _ _▸ha d hd).2
        unfold C4 at hS ⊢
        simp only [ho,h1,h2] at hS ⊢
        unfold PE at hS ⊢
        rw [hs,hx]
        cases hei:EI C.P ty with
        | none=>rw [hei] at hS;exact hS.elim
        | some ez=>
          obtain ⟨e,z⟩:=ez
          rw [hei] at hS
          obtain ⟨a1,a2,a3⟩:=hS
          obtain ⟨els,b1,b2⟩:=Pf a3
          refine ⟨a1,a2,b2 t (fun id z els e=>by
            have:t.row id=t0.row id:=by unfold St.row;rw [h.heap]
            rw [this];exact e) _ ?_⟩
          unfold Kj at b1 ⊢
          split at b1
          . obtain ⟨c1,c2,c3⟩:=b1
            refine ⟨c1,c2,_,by rw [h.heap];exact c3,?_⟩
            exact ⟨by simp only [h.heap],h.len,h.at'⟩
          . rename_i id off n _
            have hrow:t.row id=t0.row id:=by unfold St.row;rw [h.heap]
            simp only [hrow]
            split at b1
            . rename_i z' els' hr
              obtain ⟨c1,c2,c3,c4,c5⟩:=b1
              refine ⟨c1,c2,c3,c4,_,c5,?_⟩
              refine ⟨by simp only [h.heap],by simp [AT,h.len],fun d hd=>?_⟩
              simp only [Ft,List.getElem?_map,h.at' d hd]
            . exact b1.elim
          . exact b1.elim
      . cases ha
    . cases ha
  . cases ha
def Tj (C:Ctx) (ops:Array Oper) (st:List Nat) (s:St):Prop:=∀i∈st,∃o d,ops[i]?=some o∧o.dst=some d∧Ub C ops o (s.env.getD d .any) none 0 s
theorem QF {base:Nat} {d:Nat}:∀(ent:List Ent) (s:St),(∀e∈ent,e.ob=none∧BC ops e.i≠some d)→(ent.foldl (GG ops base) s).env[d]?=s.env[d]?
  | [],s,_=>rfl
  | e::r,s,h=>by
    obtain ⟨h1,h2⟩:=h e (by simp)
    rw [List.foldl_cons,QF r _ fun f hf=>h f (by simp [hf])]
    unfold GG
    rw [h1]
    cases hd:BC ops e.i with
    | none=>rfl
    | some d'=>
      have:d'≠d:=fun e=>h2 (by rw [hd,e])
      simp only [DK,St.put]
      rw [List.getElem?_set_ne this]
theorem Tk {base:Nat}:∀(st:List Nat) (ent:List Ent) (s:St),ent.map (fun e=>(e.i,e.q))=st.map (fun i=>(i,none))→(st.map (BC ops)).Nodup→(∀i∈st,∃d,BC ops i=some d∧d < s.env.length)→
    C6 C ops base ent s (fun sf=>∀i∈st,∀d,BC ops i=some d→sf.env.getD d .any=s.env.getD d .any)→Tj C ops st s
  | [],_,_,_,_,_,_=>fun i hi=>by simp at hi
  | i::st,[],s,hm,_,_,_=>by simp at hm
  | i::st,e::ent,s,hm,hn,hd,ht=>by
    simp only [List.map_cons,List.cons.injEq,Prod.mk.injEq] at hm
    obtain ⟨⟨hi,hq⟩,hm⟩:=hm
    subst hi
    rw [List.map_cons,List.nodup_cons] at hn
    obtain ⟨d,hdi,hdl⟩:=hd e.i (by simp)
    obtain ⟨⟨o,ho,hy,hob,_⟩,ht⟩:=ht
    have hob:e.ob=none:=by
      cases h:e.ob with
      | none=>rfl
      | some x=>exact absurd hq (hob (by rw [h];simp))
    have hod:o.dst=some d:=by unfold BC at hdi;rw [ho] at hdi;exact hdi
    -- what the later ones are
    have hlater:∀{st:List Nat} {ent:List Ent} {s:St} {K:St→Prop},ent.map (fun e=>(e.i,e.q))=st.map (fun i=>(i,none))→C6 C ops base ent s K→∀f∈ent,f.ob=none∧f.i∈st:=by
      intro st ent
      induction ent generalizing st with
      | nil=>intro s K _ _ f hf;simp at hf
      | cons g ent ih=>
        intro s K hm ht f hf
        cases st with
        | nil=>simp at hm
        | cons j st=>
          simp only [List.map_cons,List.cons.injEq,Prod.mk.injEq] at hm
          obtain ⟨⟨h1,h2⟩,h3⟩:=hm
          rcases List.mem_cons.1 hf with rfl|hf
          . obtain ⟨⟨_,_,_,h,_⟩,_⟩:=ht
            refine ⟨?_,by rw [h1];simp⟩
            cases hb:f.ob with
            | none=>rfl
            | some x=>exact absurd h2 (h (by rw [hb];simp))
          . obtain ⟨a,b⟩:=ih h3 ht.2 f hf
            exact ⟨a,by simp [b]⟩
    have hl:=hlater hm ht
    have hend:=JP ht
    have hr:e.r=s.env.getD d .any:=by
      have h1:=hend e.i (by simp) d hdi
      rw [List.getD_eq_getElem?_getD,QF (ops:=ops) (base:=base) (d:=d) ent _ fun f hf=>⟨(hl f hf).1,fun h=>hn.1 (List.mem_map.2 ⟨f.i,(hl f hf).2,by rw [h,hdi]⟩)⟩] at h1
      rw [←h1]
      unfold GG
      rw [hob,hdi]
      simp only [DK,St.put]
      rw [List.getElem?_set_self hdl]
      rfl
    have hnext:GG ops base s e=s:=by
      unfold GG
      rw [hob,hdi,hr]
      simp only [DK,St.put]
      obtain ⟨env,hp⟩:=s
      simp only at hdl ⊢
      congr 1
      apply List.ext_getElem?
      intro k
      by_cases hk:d=k
      . subst hk
        rw [List.getElem?_set_self hdl,List.getD_eq_getElem?_getD,List.getElem?_eq_getElem hdl]
        rfl
      . rw [List.getElem?_set_ne hk]
    rw [hnext] at ht
    have ih:=Tk st ent s hm hn.2 (fun i hi=>hd i (by simp [hi])) (Et (fun sf h i hi=>h i (by simp [hi])) ht)
    intro j hj
    rcases List.mem_cons.1 hj with rfl|hj
    . refine ⟨o,d,ho,hod,?_⟩
      rw [hob,hr] at hy
      exact hy
    . exact ih j hj
def HP (ops:Array Oper) (L:List Nat):List Nat:=L.filterMap (BC ops)
def gc (ops:Array Oper):List Nat→Bool
  | []=>true
  | i::V=>(match ops[i]? with|some o=>(HP ops (i::V)).all (fun d=>!(o.looksAt ops).contains d)|none=>false)&&gc ops V
theorem Lu {base M:Nat} {s:St} {st:List Nat} (hst:Tj C ops st s):∀(V:List Nat) (t:St),(∀i∈V,i∈st)→gc ops V=true→Off (HP ops V) ⟨s.env,s.heap++List.replicate M none⟩ t→
    ∃ent:List Ent,ent.map (fun e=>(e.i,e.q))=V.map (fun i=>(i,none))∧C6 C ops base ent t (fun s'=>s'=⟨s.env,s.heap++List.replicate M none⟩)
  | [],t,_,_,h=>⟨[],rfl,h.nil⟩
  | i::V,t,hV,hok,h=>by
    obtain ⟨o,d,ho,hod,hy⟩:=hst i (hV i (by simp))
    unfold gc at hok
    rw [ho] at hok
    simp only [Bool.and_eq_true,List.all_eq_true] at hok
    have hdi:BC ops i=some d:=by unfold BC;rw [ho];exact hod
    have hds:HP ops (i::V)=d::HP ops V:=by simp [HP,hdi]
    have hy':Ub C ops o (s.env.getD d .any) none base t:=by
      refine Pg (s:=s) (p:=base) hy (fun x hx=>?_) (.inl fun id z els e=>?_) (fun h=>absurd rfl h)
      . exact h.getD (D:=HP ops (i::V)) (s:=⟨s.env,s.heap++List.replicate M none⟩) fun hd=>by
          have:=hok.1 x hd
          simp only [Bool.not_eq_true',List.contains_eq_any_beq] at this
          rw [List.any_eq_false] at this
          exact this x hx (by simp)
      . unfold St.row at e ⊢
        rw [h.heap]
        have hk:∀ob,s.heap[id]?=some ob→(s.heap++List.replicate M none)[id]?=some ob:=fun ob hb=>by
          rw [List.getElem?_append_left (List.getElem?_eq_some_iff.1 hb).1];exact hb
        split at e
        . rename_i z0 els0 hb
          simp only [hk _ hb]
          exact e
        . cases e
    obtain ⟨ent,h1,h2⟩:=Lu hst V (t.put (some d) (s.env.getD d .any)) (fun j hj=>hV j (by simp [hj])) hok.2 (by
      refine ⟨h.heap,by simp [St.put,h.len],fun k hk=>?_⟩
      simp only [St.put]
      by_cases hkd:d=k
      . subst hkd
        have hl:=h.len
        simp only at hl
        rw [List.getElem?_set,if_pos rfl,hl]
        split
        . rename_i hlt
          rw [List.getElem?_eq_getElem hlt,List.getD_eq_getElem?_getD,List.getElem?_eq_getElem hlt]
          rfl
        . rw [List.getElem?_eq_none (by omega)]
      . rw [List.getElem?_set_ne hkd]
        exact h.at' k (by rw [hds];simp [hk,Ne.symm hkd]))
    refine ⟨⟨i,none,s.env.getD d .any,none⟩::ent,by simp [h1],⟨o,ho,?_,fun h=>absurd rfl h,fun h=>absurd rfl h⟩,?_⟩
    . exact hy'
    . have:GG ops base t ⟨i,none,s.env.getD d .any,none⟩=t.put (some d) (s.env.getD d .any):=by
        unfold GG
        simp only [hdi,DK]
      rw [this]
      exact h2
def HQ (st:List Nat) (i:Nat):Bool:=st.contains i
def gd (C:Ctx) (ops:Array Oper) (K:St→Prop) (g:Sg) (us0:List (List Nat)) (st:List Nat) (b:Nat) (r:List Sg) (s:St):Prop:=
  ∃ent:List Ent,ent.map (fun e=>(e.i,e.q))=C5 g.ql [] g.seg∧C6 C ops s.heap.length ent ⟨s.env,s.heap++List.replicate g.M none⟩ (fun s'=>
    ∀U∈us0,∃o K0,ops[b]?=some o∧C4 C o (FA ops s.env (C5 g.ql [] g.seg) s.heap.length U s') K0∧∀x s'',K0 x s''→Tj C ops st (s''.put o.dst x)∧Pi C ops K r U (s''.put o.dst x))
def OV (ops:Array Oper) (U V W:List Nat):List Sg→Bool
  | []=>V.isEmpty
  | g2::_=>decide (C5 g2.ql U g2.seg=V.map (fun i=>(i,none))++C5 g2.ql W g2.seg)&&(dO g2 U).all fun U'=>(dO g2 W).contains U'&&U'.all fun i=>decide (TH (C5 g2.ql W g2.seg) i=TH (C5 g2.ql U g2.seg) i)&&(HP ops [i]).all fun d=>!(HP ops V).contains d
def di (ops:Array Oper) (g:Sg) (us0:List (List Nat)) (st:List Nat) (b:Nat) (r:List Sg) (U:List Nat):Bool:=
  us0.contains (U.filter fun i=>!HQ st i)&&gc ops (U.filter (HQ st))&&((U.filter (HQ st)).all fun i=>(TH (C5 g.ql [] g.seg) i).isNone)&&
    (match ops[b]? with|some o=>XN o (HP ops (U.filter (HQ st)))|none=>false)&&OV ops U (U.filter (HQ st)) (U.filter fun i=>!HQ st i) r
theorem Uu {env0 env1:List V} {seg seg':List (Nat×Option Nat)} {base:Nat}:∀(U:List Nat) (s:St),(∀i∈U,∀d,BC ops i=some d→env0.getD d .any=env1.getD d .any)→(∀i∈U,TH seg i=TH seg' i)→FA ops env0 seg base U s=FA ops env1 seg' base U s:=by
  intro U s h1 h2
  unfold FA
  have e1:CD ops env0 U s.env=CD ops env1 U s.env:=by
    induction U with
    | nil=>rfl
    | cons i U ih=>
      have:=ih (fun j hj=>h1 j (by simp [hj])) (fun j hj=>h2 j (by simp [hj]))
      unfold CD
      cases hd:BC ops i with
      | none=>exact this
      | some d=>simp only [this,h1 i (by simp) d hd]
  have e2:Bd seg base U s.heap=Bd seg' base U s.heap:=by
    clear h1 e1
    induction U with
    | nil=>rfl
    | cons i U ih=>
      have:=ih (fun j hj=>h2 j (by simp [hj]))
      unfold Bd
      rw [h2 i (by simp),this]
  rw [e1,e2]
theorem Lv {env0:List V} {seg:List (Nat×Option Nat)} {base:Nat} {st:List Nat} (s:St):∀U:List Nat,((U.filter (HQ st)).all fun i=>(TH seg i).isNone)=true→Off (HP ops (U.filter (HQ st))) (FA ops env0 seg base (U.filter fun i=>!HQ st i) s) (FA ops env0 seg base U s)
  | [],_=>⟨rfl,rfl,fun _ _=>rfl⟩
  | i::U,h=>by
    cases hi:HQ st i with
    | true=>
      rw [List.filter_cons_of_pos hi] at h ⊢
      rw [List.filter_cons_of_neg (by simp [hi])]
      rw [List.all_cons,Bool.and_eq_true,Option.isNone_iff_eq_none] at h
      have ih:=Lv (env0:=env0) (base:=base) s U h.2
      refine ⟨?_,?_,fun d hd=>?_⟩
      . rw [←ih.heap]
        show Bd seg base (i::U) s.heap=Bd seg base U s.heap
        rw [Bd,h.1]
      . rw [←ih.len]
        show (CD ops env0 (i::U) s.env).length=(CD ops env0 U s.env).length
        rw [BS,BS]
      . have hd':d∉HP ops (U.filter (HQ st)):=fun hm=>hd (by
          unfold HP at hm ⊢
          rw [List.filterMap_cons]
          cases BC ops i<;>simp [hm])
        rw [←ih.at' d hd']
        show (CD ops env0 (i::U) s.env)[d]?=(CD ops env0 U s.env)[d]?
        rw [CD]
        cases hdi:BC ops i with
        | none=>rfl
        | some e=>
          have:e≠d:=fun e'=>hd (by unfold HP;rw [List.filterMap_cons,hdi,e'];simp)
          simp only
          rw [List.getElem?_set_ne this]
    | false=>
      rw [List.filter_cons_of_neg (by simp [hi])] at h ⊢
      rw [List.filter_cons_of_pos (by simp [hi])]
      have ih:=Lv (env0:=env0) (base:=base) s U h
      have ih1:Bd seg base U s.heap=Bd seg base (U.filter fun i=>!HQ st i) s.heap:=ih.heap
      have ih3:∀d,d∉HP ops (U.filter (HQ st))→(CD ops env0 U s.env)[d]?=(CD ops env0 (U.filter fun i=>!HQ st i) s.env)[d]?:=ih.at'
      refine ⟨?_,?_,fun d hd=>?_⟩
      . show Bd seg base (i::U) s.heap=Bd seg base (i::_) s.heap
        rw [Bd,Bd,ih1]
      . show (CD ops env0 (i::U) s.env).length=(CD ops env0 (i::_) s.env).length
        rw [BS,BS]
      . show (CD ops env0 (i::U) s.env)[d]?=(CD ops env0 (i::_) s.env)[d]?
        rw [CD,CD]
        cases hdi:BC ops i with
        | none=>exact ih3 d hd
        | some e=>
          simp only
          rw [List.getElem?_set,List.getElem?_set,BS,BS,ih3 d hd]
theorem XO {K:St→Prop} {st U V W:List Nat} {s t:St} (hst:Tj C ops st s) (hV:∀i∈V,i∈st) (hok:gc ops V=true) (ho:Off (HP ops V) s t):∀{r:List Sg},OV ops U V W r=true→Pi C ops K r W s→Pi C ops K r U t
  | [],hn,h=>by
    obtain rfl:V=[]:=by simpa [OV] using hn
    rw [ho.nil]
    exact h
  | g2::r2,hn,h=>by
    simp only [OV,Bool.and_eq_true,decide_eq_true_eq] at hn
    obtain ⟨n1,n2⟩:=hn
    obtain ⟨ent0,h1,h2⟩:=h
    have hl:t.heap.length=s.heap.length:=by rw [ho.heap]
    obtain ⟨entV,e1,e2⟩:=Lu (base:=t.heap.length) (M:=g2.M) hst V ⟨t.env,t.heap++List.replicate g2.M none⟩ hV hok ⟨by simp only [ho.heap],ho.len,ho.at'⟩
    refine ⟨entV++ent0,by rw [List.map_append,e1,h1,n1],Lt (Et (fun s' hs'=>?_) e2)⟩
    subst hs'
    rw [hl]
    refine Et (fun s' hs'=>?_) h2
    cases hb:g2.bar with
    | none=>simp only [hb] at hs' ⊢;exact hs'
    | some b2=>
      simp only [hb] at hs' ⊢
      intro U' hU'
      have n2':=n2
      rw [List.all_eq_true] at n2'
      obtain ⟨o,K0,a1,a2,a3⟩:=hs' U' (by
        have h:=n2' U' hU'
        rw [Bool.and_eq_true] at h
        simpa using h.1)
      have n3:=n2' U' hU'
      rw [Bool.and_eq_true] at n3
      have n3:=n3.2
      rw [List.all_eq_true] at n3
      refine ⟨o,K0,a1,?_,a3⟩
      rw [Uu U' s' (env0:=s.env) (env1:=t.env) (seg':=C5 g2.ql U g2.seg) (fun i hi d hd=>?_) (fun i hi=>?_)] at a2
      . exact a2
      . have:=n3 i hi
        simp only [Bool.and_eq_true,decide_eq_true_eq,List.all_eq_true] at this
        refine (ho.getD fun hm=>?_).symm
        have h3:=this.2 d (by simp [HP,hd])
        simp [hm] at h3
      . have:=n3 i hi
        simp only [Bool.and_eq_true,decide_eq_true_eq] at this
        exact this.1
theorem Uv {K:St→Prop} {g:Sg} {us0:List (List Nat)} {st:List Nat} {b:Nat} {r:List Sg} {s:St} (hb:g.bar=some b) (hc:g.us.all (di ops g us0 st b r)=true) (h:gd C ops K g us0 st b r s):Pi C ops K (g::r) [] s:=by
  obtain ⟨ent,h1,h2⟩:=h
  refine ⟨ent,h1,Et (fun s' hs'=>?_) h2⟩
  simp only [hb]
  intro U hU
  rw [List.all_eq_true] at hc
  have hc:=hc U (Hg hU)
  simp only [di,Bool.and_eq_true] at hc
  obtain ⟨⟨⟨⟨c1,c2⟩,c3⟩,c4⟩,c5⟩:=hc
  obtain ⟨o,K0,a1,a2,a3⟩:=hs' (U.filter fun i=>!HQ st i) (by simpa using c1)
  rw [a1] at c4
  refine ⟨o,_,a1,Zi c4 (Lv s' U c3) a2,?_⟩
  rintro x t'' ⟨s'',hk,hoff⟩
  obtain ⟨q1,q2⟩:=a3 x s'' hk
  exact Bg (XO q1 (fun i hi=>by
    have:=(List.mem_filter.1 hi).2
    simpa [HQ] using this) c2 (hoff.put o.dst x) c5 q2)
structure EqL (σ σ3:ES) (ds:List Nat):Prop where
  out:ds.map σ3.get=ds.map σ.get
  lt:(ds.all fun d=>Nat.blt d σ.n)=true
def Tl (all:List Oper) (st:List Nat):List Nat:=st.filterMap fun i=>(all[i]?).bind (·.dst)
def Rn (T:TT) (C:Ctx) (all:List Oper) (K:ES→Prop) (g:Sg) (us0:List (List Nat)) (st:List Nat) (b:Nat) (r:List Sg) (σ:ES):Prop:=
  nF σ.heap.length fun base=>fH (σ.heap++List.replicate g.M none) fun h=>Gb σ h fun σ1=>Wk T C all base (fun σ2=>Qu all[b]? fun o=>ZB us0 fun U=>Hk all σ U σ2.u fun u2=>fH (Bd (C5 g.ql [] g.seg) base U σ2.heap) fun h2=>
    BH T C false o.op (fun x σ'=>fV x fun x=>Gf σ' o.dst x fun σ''=>Both (Wk T C all 0 (fun σ3=>EqL σ'' σ3 (Tl all st)) (st.map fun i=>(i,none)) σ'') (eSegs T C all K r U σ'')) ⟨σ2.n,u2,h2⟩) (C5 g.ql [] g.seg) σ1
def ge (ops:Array Oper) (g:Sg) (us0:List (List Nat)) (st:List Nat) (b:Nat) (r:List Sg):Bool:=
  decide (g.bar=some b)&&g.us.all (di ops g us0 st b r)&&decide ((st.map (BC ops)).Nodup)&&st.all fun i=>(BC ops i).isSome
theorem Uw (hE:EOk T C) {K:ES→Prop} {g:Sg} {us0:List (List Nat)} {st:List Nat} {b:Nat} {r:List Sg} {σ:ES} (hn:(st.map (BC ops)).Nodup) (hsm:(st.all fun i=>(BC ops i).isSome)=true) (h:Rn T C ops.toList K g us0 st b r σ):
    gd C ops (fun s=>∃h:List (Option Ob),(∀(i:Nat) (o:Ob),h[i]?=some (some o)↔s.heap[i]?=some (some o))∧Ks K ⟨s.env,h⟩) g us0 st b r σ.st:=by
  rw [Rn,K7,BB,Cu] at h
  refine Iqz hE (fun σ2 h2=>?_) (C5 g.ql [] g.seg) _ h
  obtain ⟨o,ho,h2⟩:=Bx h2
  rw [Array.getElem?_toList] at ho
  intro U hU
  obtain ⟨u2,h3,he⟩:=Fj (n:=σ2.n) (h:=σ2.heap) U σ2.u _ (LS h2 U hU)
  rw [BB] at h3
  have hst:FA ops σ.st.env (C5 g.ql [] g.seg) σ.st.heap.length U σ2.st=(⟨σ2.n,u2,Bd (C5 g.ql [] g.seg) σ.heap.length U σ2.heap⟩:ES).st:=by
    unfold FA ES.st
    congr 1
    exact he.symm
  have hS:=(Fg hE.all h3).1
  rw [←hst] at hS
  refine ⟨o,_,ho,hS,?_⟩
  rintro x s'' ⟨σ',rfl,h3⟩
  rw [HW,DN] at h3
  rw [FO]
  obtain ⟨h4,h5⟩:=h3
  refine ⟨?_,IP hE r U _ h5⟩
  have hds:∀i∈st,∀d,BC ops i=some d→d∈Tl ops.toList st:=fun i hi d hd=>by
    unfold Tl
    rw [List.mem_filterMap]
    refine ⟨i,hi,?_⟩
    rw [Array.getElem?_toList]
    exact hd
  have hlt:∀i∈st,∀d,BC ops i=some d→(ES.put σ' o.dst x).n > d:=by
    intro i hi d hd
    -- the check is made once the readers have been tried
    obtain ⟨ent,_,ht⟩:=Iqz hE (K':=fun _=>((Tl ops.toList st).all fun d=>Nat.blt d (ES.put σ' o.dst x).n)=true) (fun σ3 h=>h.lt) _ _ h4
    have:=JP ht
    rw [List.all_eq_true] at this
    have:=this d (hds i hi d hd)
    simpa using this
  obtain ⟨ent,e1,e2⟩:=Iqz hE (K':=fun sf=>∀i∈st,∀d,BC ops i=some d→sf.env.getD d .any=(ES.put σ' o.dst x).st.env.getD d .any) (fun σ3 h i hi d hd=>by
    have h1:=h.out
    rw [List.map_inj_left] at h1
    have:=h1 d (hds i hi d hd)
    show σ3.env.getD d .any=(ES.put σ' o.dst x).env.getD d .any
    rw [Fs,Fs]
    exact this) _ _ h4
  rw [List.all_eq_true] at hsm
  refine Tk st ent _ e1 hn (fun i hi=>?_) e2
  obtain ⟨d,hd⟩:=Option.isSome_iff_exists.1 (hsm i hi)
  refine ⟨d,hd,?_⟩
  have:=hlt i hi d hd
  show d < (ES.env _).length
  unfold ES.env
  simpa using this
theorem Dg (hE:EOk T C) {K:ES→Prop} {σ:ES} (g:Sg) (r:List Sg) (us0:List (List Nat)) (st:List Nat) (b:Nat) (hp:(Hh ops (Eg ops) 0 [] (g::r)&&Nat.ble (NN (g::r)) ops.size&&(g::r).all (fun g=>decide g.opt.Nodup)&&ge ops g us0 st b r)=true)
    (h:Rn T C ops.toList K g us0 st b r σ):DrawN T C ops K σ:=by
  refine ⟨fun id a w hr=>?_⟩
  obtain ⟨I,bl,hp'⟩:=hr.parts
  have hp'':RP C σ.st a { w with drawn:=w.drawn+1} I bl:=hp'.drew
  refine wp_region_any hE.any ?_
  rw [Bool.and_eq_true,Bool.and_eq_true,Bool.and_eq_true,Nat.ble_eq] at hp
  obtain ⟨⟨⟨p1,p2⟩,p3⟩,p4⟩:=hp
  simp only [ge,Bool.and_eq_true,decide_eq_true_eq] at p4
  obtain ⟨⟨⟨q1,q2⟩,q3⟩,q4⟩:=p4
  refine IM (fun s a w hr hk=>?_) (g::r) 0 [] p1 p3 (fun j o ho h=>by simp at h) (fun j h=>by simp at h) σ.st (Uv q1 q2 (Uw hE q3 q4 h)) ops.size (Array.replicate ops.size false) (by simpa using p2) GX (by simp) (fun j=>by
    by_cases hj:j < ops.size<;>simp [Array.getD,hj]) a _ hp''.rel
  obtain ⟨h',he,σ',hs,hk⟩:=hk
  refine ⟨⟨s.env,h'⟩,⟨rfl,σ',hs,hk⟩,Fi hr (fun k x hx=>.inl ((he k x).1 hx)) (fun k x hx=>.inl ((he k x).2 hx))⟩
end
end Go.Proofs.YtkaiffheakalmaaGreatDoor
namespace Go.Proofs.YtkaiffheakalmaaGreatDoor
open Go.RowKit
theorem Ux (l:List Int) (q:Int):Fn1 Tryz.prog 103 [.lst (l.map (V.int .i64)),.int .i64 q] (fun r=>r= .int .i64 (GI (fun x=>decide (q=x)) l)):=by
  refine A4 (T:=Tryz.tt) Tryz.func103 rfl AR AB ?_ ?_ fun C hC hE=>?_
  . kernel_rfl
  . exact Nat.le_of_ble_eq_true (by kernel_rfl)
  conv=>whnf
  intro hl
  conv=>whnf
  refine Ae (fun k:Nat=>⟨19,[(0,.lst (l.map (V.int .i64))),(1,.int .i64 q),(7,.int .i64 (l.map (V.int .i64)).length),(8,.int .i64 k)],[]⟩) (fun k=>k≤l.length∧∀j < k,∀x,l[j]?=some x→decide (q=x)=false) (fun k=>l.length - k) 0 hE ?_ ?_ ?_ ?_
  . kernel_rfl
  . exact AU [0,1,7,8] rfl
  . exact ⟨Nat.zero_le _,fun j hj=>by omega⟩
  intro k hkj
  obtain ⟨hk,hj⟩:=hkj
  have hlm:(l.map (V.int .i64)).length=l.length:=by simp
  by_cases hlt:k < l.length
  . obtain ⟨x,hx⟩:∃x,l[k]?=some x:=⟨_,List.getElem?_eq_getElem hlt⟩
    have gx:(l.map (V.int .i64))[k]?=some (.int .i64 x):=by rw [List.getElem?_map,hx];rfl
    conv=>whnf
    repeat' (first|(refine AN (by first|assumption|omega) ?_;conv=>whnf)|(refine Af (by first|assumption|omega) ?_;conv=>whnf)|(refine AS (by omega) ?_;conv=>whnf)|(refine AQ (by assumption) ?_;conv=>whnf)|(refine He (fun h=>?_) (fun h=>?_)<;>conv=>whnf)|(refine AH hE ?_;conv=>whnf))
    . exact ⟨rfl,by rw [EW hx (decide_eq_true (by assumption)) hj]⟩
    . refine AJ [0,1,7,8] (k+1) ⟨hlt,?_⟩ (by omega) rfl
      intro j hjk y hy
      by_cases e:j=k
      . subst e;rw [hx] at hy;cases hy;exact decide_eq_false (by assumption)
      . exact hj j (by omega) y hy
  . conv=>whnf
    repeat' (first|(refine AM (by first|assumption|omega) ?_;conv=>whnf)|(refine AH hE ?_;conv=>whnf))
    exact ⟨rfl,by rw [De (fun x hx=>by obtain ⟨j,hj'⟩:=List.mem_iff_getElem?.1 hx;exact hj j (by have:=(List.getElem?_eq_some_iff.1 hj').1;omega) x hj')]⟩
theorem EP (l:List Int) (q:Int):Fn1 Tryz.prog 92 [.lst (l.map (V.int .i64)),.int .i64 q] (fun r=>r= .bool (decide (q∈l))):=by
  have ha:=EX (fun x=>decide (q=x)) l
  have hb:decide (q∈l)=l.any (fun x=>decide (q=x)):=by rw [Bool.eq_iff_iff];simp
  refine A4 (T:=Tryz.tt) Tryz.func92 rfl AR AB ?_ ?_ fun C hC hE=>?_
  . kernel_rfl
  . exact Nat.le_of_ble_eq_true (by kernel_rfl)
  conv=>whnf
  repeat' (first|(refine AC (Ux _ _) hC Qs ?_ ?_ ?_;kernel_rfl;kernel_rfl;conv=>whnf)|(refine He (fun h=>?_) (fun h=>?_)<;>conv=>whnf)|(refine AH hE ?_;conv=>whnf))
  all_goals exact ⟨rfl,by rw [hb,←ha];congr 1;first|exact (decide_eq_true (by assumption)).symm|exact (decide_eq_false (by assumption)).symm⟩
def CC (F:List (List Int)):List V:=(List.range F.length).map fun j=>.sl (3+j) 0 (AF F j).length
def Qw (S:Ps):V:=.agg [.sl 1 0 S.T.length,.sl 2 0 S.F.length,.nils,.nils,.bool false]
def fo (F:List (List Int)) (j:Nat):Ob:=.row 1 ((AF F j).map (V.int .i64))
def Bj (S:Ps):List Ob:=[.row 5 [Qw S],.row 1 (S.T.map (V.int .i64)),.row 1 (CC S.F),fo S.F 0,fo S.F 1,fo S.F 2,fo S.F 3]
theorem OW (F:List (List Int)):(CC F).length=F.length:=by simp [CC]
theorem KO {F:List (List Int)} {i:Nat} (h:i < F.length):(CC F)[0+Int.toNat (i:Int)]?=some (.sl (3+i) 0 (AF F i).length):=by
  rw [Nat.zero_add,Int.toNat_natCast]
  unfold CC
  rw [List.getElem?_map,List.getElem?_range h]
  rfl
theorem Lw {F:List (List Int)} {i j:Nat} {r:List Int} (h:i < F.length):AF (F.set i r) j=if j=i then r else AF F j:=by
  unfold AF
  rw [List.getD_eq_getElem?_getD,List.getD_eq_getElem?_getD,List.getElem?_set]
  split
  . rename_i e
    subst e
    simp [h]
  . rename_i e
    rw [if_neg (fun e'=>e e'.symm)]
theorem Zj {F:List (List Int)} {i:Nat} {r:List Int} (h:i < F.length):(AK (3+i) (CC F)).set i (.sl (3+i) 0 r.length)=CC (F.set i r):=by
  refine List.ext_getElem? fun j=>?_
  have hkl:(AK (3+i) (CC F)).length=F.length:=by rw [AT,OW]
  by_cases hj:j < F.length
  . have e2:(CC (F.set i r))[j]?=some (.sl (3+j) 0 (AF (F.set i r) j).length):=by
      unfold CC
      rw [List.getElem?_map,List.getElem?_range (by simpa using hj)]
      rfl
    rw [e2,Lw h]
    by_cases e:i=j
    . subst e
      rw [List.getElem?_set_self (by omega),if_pos rfl]
    . rw [List.getElem?_set_ne e,if_neg (fun e'=>e e'.symm)]
      have e3:AK (3+i) (CC F)=(List.range F.length).map fun j=>(V.sl (3+j) 0 (AF F j).length).kill (3+i):=by
        unfold CC
        rw [FX]
      rw [e3,List.getElem?_map,List.getElem?_range hj]
      simp only [Option.map_some,V.kill]
      rw [if_neg (by omega)]
  . rw [List.getElem?_eq_none (by rw [List.length_set];omega),List.getElem?_eq_none (by rw [OW,List.length_set];omega)]
theorem F1 {F:List (List Int)} {i:Nat} (h:i < F.length):(AK (3+i) (CC F))[0+Int.toNat (i:Int)]?=some .any:=by
  rw [Nat.zero_add,Int.toNat_natCast]
  unfold CC
  rw [FX,List.getElem?_map,List.getElem?_range h]
  simp [V.kill]
theorem CN {F:List (List Int)} {n:Nat} (h:F.length+3≤n):AK n (CC F)=CC F:=by
  unfold CC
  rw [FX]
  refine List.map_congr_left fun j hj=>?_
  have:=List.mem_range.1 hj
  simp only [V.kill]
  rw [if_neg (by omega)]
theorem KP {F:List (List Int)} {i:Nat} (h:i < F.length) (h4:F.length≤4) (q:Int):AK 8 ((AK (3+i) (CC F)).set i (.sl (3+i) 0 ((AF F i).length+1)))=CC (F.set i (AF F i++[q])):=by
  have:=Zj (r:=AF F i++[q]) h
  rw [List.length_append,List.length_singleton] at this
  rw [this,CN (by rw [List.length_set];omega)]
theorem Ii {F:List (List Int)} {i:Nat} (h:i < F.length) (q:Int) (a b:Nat):AK a (AK b (List.take (AF F i).length (List.drop 0 ((AF F i).map (V.int .i64)))++[V.int .i64 q]))=(AF (F.set i (AF F i++[q])) i).map (V.int .i64):=by
  rw [Lw h,if_pos rfl,List.drop_zero,List.take_of_length_le (by simp),show (AF F i).map (V.int .i64)++[V.int .i64 q]=(AF F i++[q]).map (V.int .i64) by simp,AA _ (AE _),AA _ (AE _)]
theorem CO {F:List (List Int)} {i j:Nat} (h:i < F.length) (hj:j≠i) (r:List Int) (a b:Nat):AK a (AK b ((AF F j).map (V.int .i64)))=(AF (F.set i r) j).map (V.int .i64):=by
  rw [Lw h,if_neg hj,AA _ (AE _),AA _ (AE _)]
theorem HB (T:List Int) (a b:Nat):AK a (AK b (T.map (V.int .i64)))=T.map (V.int .i64):=by rw [AA _ (AE _),AA _ (AE _)]
set_option maxHeartbeats 16000000 in
theorem dj (S:Ps) (fr to:List Int) (hF:S.F.length≤4) (hfr:∀i∈fr,0≤i∧i < S.F.length) (hto:∀k∈to,0≤k∧k < S.F.length) (hB:BdF S.F.length S.F):
    HFn Tryz.prog 76 [.ptr 0 0 0,.lst (fr.map (V.int .i64)),.lst (to.map (V.int .i64))] (Bj S) [0] (fun r o=>r= .tup []∧o=Bj ⟨S.T,Au fr to S.F⟩):=by
  have hfm:(fr.map (V.int .i64)).length=fr.length:=by simp
  have htm:(to.map (V.int .i64)).length=to.length:=by simp
  refine HO (T:=Tryz.tt) Tryz.func76 rfl AR AB ?_ ?_ fun C vs hC hE=>?_
  . kernel_rfl
  . exact Nat.le_of_ble_eq_true (by kernel_rfl)
  unfold Bj Qw fo
  conv=>whnf
  repeat' (intro hlen;conv=>whnf)
  refine Ae (fun j:Nat=>⟨50,[(0,.ptr 0 0 0),(2,.lst (to.map (V.int .i64))),(10,.lst (fr.map (V.int .i64))),(11,.int .i64 (fr.map (V.int .i64)).length),(12,.int .i64 j)],
      [some (.row 5 [.agg [.sl 1 0 S.T.length,.sl 2 0 S.F.length,.nils,.nils,.bool false]]),some (.row 1 (S.T.map (V.int .i64))),some (.row 1 (CC (Au (fr.take j) to S.F))),some (.row 1 ((AF (Au (fr.take j) to S.F) 0).map (V.int .i64))),some (.row 1 ((AF (Au (fr.take j) to S.F) 1).map (V.int .i64))),some (.row 1 ((AF (Au (fr.take j) to S.F) 2).map (V.int .i64))),some (.row 1 ((AF (Au (fr.take j) to S.F) 3).map (V.int .i64))),some (.hid vs [.ptr 0 0 0,.lst (fr.map (V.int .i64)),.lst (to.map (V.int .i64))])]⟩)
    (fun j=>j≤fr.length) (fun j=>fr.length - j) 0 hE ?_ ?_ (Nat.zero_le _) ?_
  . kernel_rfl
  . exact AU [0,2,10,11,12] rfl
  intro j hj
  by_cases hlt:j < fr.length
  . obtain ⟨i,hi⟩:∃i,fr[j]?=some i:=⟨_,List.getElem?_eq_getElem hlt⟩
    have gi:(fr.map (V.int .i64))[j]?=some (.int .i64 i):=by rw [List.getElem?_map,hi];rfl
    have hir:=hfr i (List.mem_of_getElem? hi)
    have hFl:=CA to (fr.take j) S.F
    have hFb:=Lk (n:=S.F.length) (fr:=fr.take j) hto hB
    have hend:Au (fr.take (j+1)) to S.F=Ab i to (Au (fr.take j) to S.F):=by
      rw [List.take_add_one,hi]
      exact Rh _ _ _ _
    generalize Au (fr.take j) to S.F=G at*
    have hi4:i=0∨i=1∨i=2∨i=3:=by omega
    rcases hi4 with rfl|rfl|rfl|rfl
    . conv=>whnf
      repeat' (first|(refine AN (by first|assumption|omega) ?_;conv=>whnf)|(refine Af (by first|assumption|omega) ?_;conv=>whnf)|(refine AQ (by assumption) ?_;conv=>whnf)|(intro hlen;conv=>whnf))
      refine Ae (fun k:Nat=>⟨50,[(0,.ptr 0 0 0),(2,.lst (to.map (V.int .i64))),(7,.int .i64 0),(10,.lst (fr.map (V.int .i64))),(11,.int .i64 (fr.map (V.int .i64)).length),(12,.int .i64 j),(16,.lst (to.map (V.int .i64))),(17,.int .i64 (to.map (V.int .i64)).length),(18,.int .i64 k)],
          [some (.row 5 [.agg [.sl 1 0 S.T.length,.sl 2 0 S.F.length,.nils,.nils,.bool false]]),some (.row 1 (S.T.map (V.int .i64))),some (.row 1 (CC (Ab 0 (to.take k) G))),some (.row 1 ((AF (Ab 0 (to.take k) G) 0).map (V.int .i64))),some (.row 1 ((AF (Ab 0 (to.take k) G) 1).map (V.int .i64))),some (.row 1 ((AF (Ab 0 (to.take k) G) 2).map (V.int .i64))),some (.row 1 ((AF (Ab 0 (to.take k) G) 3).map (V.int .i64))),some (.hid vs [.ptr 0 0 0,.lst (fr.map (V.int .i64)),.lst (to.map (V.int .i64))])]⟩)
        (fun k=>k≤to.length) (fun k=>to.length - k) 0 hE ?_ ?_ (Nat.zero_le _) ?_
      . kernel_rfl
      . exact AU [0,2,7,10,11,12,16,17,18] rfl
      intro k hk
      by_cases hlk:k < to.length
      . obtain ⟨q,hq⟩:∃q,to[k]?=some q:=⟨_,List.getElem?_eq_getElem hlk⟩
        have gq:(to.map (V.int .i64))[k]?=some (.int .i64 q):=by rw [List.getElem?_map,hq];rfl
        have hGl:=EZ 0 (to.take k) G
        have hGb:=Fk (i:=0) (to:=to.take k) hFb (fun x hx=>hto x (List.mem_of_mem_take hx))
        have hne:Ab 0 (to.take (k+1)) G=DF 0 q (Ab 0 (to.take k) G):=by
          rw [List.take_add_one,hq]
          exact F0 _ _ _ _
        generalize Ab 0 (to.take k) G=H at*
        have hrl:(AF H 0).length≤S.F.length:=by
          unfold AF
          rw [List.getD_eq_getElem?_getD]
          cases hg:H[0]? with
          | none=>exact Nat.zero_le _
          | some r0=>exact G9 (hGb r0 (List.mem_of_getElem? hg))
        have hrm:((AF H 0).map (V.int .i64)).length=(AF H 0).length:=by simp
        have gs:=KO (F:=H) (i:=0) (by omega)
        have gs2:=F1 (F:=H) (i:=0) (by omega)
        have hct:=EP (AF H 0) q
        have hnr:=AE (AF H 0)
        have hfz:[(V.sl 3 0 (AF H 0).length).frz 3 ((AF H 0).map (V.int .i64)),V.int .i64 q]=[.lst ((AF H 0).map (V.int .i64)),V.int .i64 q]:=by rw [BY 3 _ (by simp)]
        by_cases hm:q∈AF H 0
        . rw [decide_eq_true hm] at hct
          have h1:DF 0 q H=H:=if_pos hm
          rw [h1] at hne
          have hfin:(⟨50,[(0,.ptr 0 0 0),(2,.lst (to.map (V.int .i64))),(7,.int .i64 0),(10,.lst (fr.map (V.int .i64))),(11,.int .i64 (fr.map (V.int .i64)).length),(12,.int .i64 j),(16,.lst (to.map (V.int .i64))),(17,.int .i64 (to.map (V.int .i64)).length),(18,.int .i64 ((k:Int)+1))],[some (.row 5 [.agg [.sl 1 0 S.T.length,.sl 2 0 S.F.length,.nils,.nils,.bool false]]),some (.row 1 (S.T.map (V.int .i64))),some (.row 1 (CC H)),some (.row 1 ((AF H 0).map (V.int .i64))),some (.row 1 ((AF H 1).map (V.int .i64))),some (.row 1 ((AF H 2).map (V.int .i64))),some (.row 1 ((AF H 3).map (V.int .i64))),some (.hid vs [.ptr 0 0 0,.lst (fr.map (V.int .i64)),.lst (to.map (V.int .i64))])]⟩:ES)=(⟨50,[(0,.ptr 0 0 0),(2,.lst (to.map (V.int .i64))),(7,.int .i64 0),(10,.lst (fr.map (V.int .i64))),(11,.int .i64 (fr.map (V.int .i64)).length),(12,.int .i64 j),(16,.lst (to.map (V.int .i64))),(17,.int .i64 (to.map (V.int .i64)).length),(18,.int .i64 ((k+1:Nat):Int))],[some (.row 5 [.agg [.sl 1 0 S.T.length,.sl 2 0 S.F.length,.nils,.nils,.bool false]]),some (.row 1 (S.T.map (V.int .i64))),some (.row 1 (CC (Ab 0 (to.take (k+1)) G))),some (.row 1 ((AF (Ab 0 (to.take (k+1)) G) 0).map (V.int .i64))),some (.row 1 ((AF (Ab 0 (to.take (k+1)) G) 1).map (V.int .i64))),some (.row 1 ((AF (Ab 0 (to.take (k+1)) G) 2).map (V.int .i64))),some (.row 1 ((AF (Ab 0 (to.take (k+1)) G) 3).map (V.int .i64))),some (.hid vs [.ptr 0 0 0,.lst (fr.map (V.int .i64)),.lst (to.map (V.int .i64))])]⟩:ES):=by
            rw [hne]
            rfl
          generalize (AF H 0).length=m at*
          generalize (AF H 0).map (V.int .i64)=R0 at*
          generalize (AF H 1).map (V.int .i64)=R1 at*
          generalize (AF H 2).map (V.int .i64)=R2 at*
          generalize (AF H 3).map (V.int .i64)=R3 at*
          generalize CC H=L at*
          conv=>whnf
          repeat' (first|(refine AN (by first|assumption|omega) ?_;conv=>whnf)|(refine Af (by first|assumption|omega) ?_;conv=>whnf)|(refine AS (by omega) ?_;conv=>whnf)|(refine AQ (by assumption) ?_;conv=>whnf)|(refine CU 3 hct hC Ce rfl hnr rfl hfz rfl rfl ?_;conv=>whnf))
          exact AJ [0,2,7,10,11,12,16,17,18] (k+1) hlk (by show to.length - (k+1) < to.length - k;omega) hfin
        . rw [decide_eq_false hm] at hct
          have h1:DF 0 q H=H.set 0 (AF H 0++[q]):=if_neg hm
          rw [h1] at hne
          have hfin:(⟨50,[(0,.ptr 0 0 0),(2,.lst (to.map (V.int .i64))),(7,.int .i64 0),(10,.lst (fr.map (V.int .i64))),(11,.int .i64 (fr.map (V.int .i64)).length),(12,.int .i64 j),(16,.lst (to.map (V.int .i64))),(17,.int .i64 (to.map (V.int .i64)).length),(18,.int .i64 ((k:Int)+1))],[some (.row 5 [.agg [.sl 1 0 S.T.length,.sl 2 0 S.F.length,.nils,.nils,.bool false]]),some (.row 1 (AK 8 (AK 3 (S.T.map (V.int .i64))))),some (.row 1 (AK 8 ((AK 3 (CC H)).set 0 (.sl 3 0 ((AF H 0).length+1))))),some (.row 1 (AK 8 (AK 3 (List.take (AF H 0).length (List.drop 0 ((AF H 0).map (V.int .i64)))++[V.int .i64 q])))),some (.row 1 (AK 8 (AK 3 ((AF H 1).map (V.int .i64))))),some (.row 1 (AK 8 (AK 3 ((AF H 2).map (V.int .i64))))),some (.row 1 (AK 8 (AK 3 ((AF H 3).map (V.int .i64))))),some (.hid vs [.ptr 0 0 0,.lst (fr.map (V.int .i64)),.lst (to.map (V.int .i64))])]⟩:ES)=(⟨50,[(0,.ptr 0 0 0),(2,.lst (to.map (V.int .i64))),(7,.int .i64 0),(10,.lst (fr.map (V.int .i64))),(11,.int .i64 (fr.map (V.int .i64)).length),(12,.int .i64 j),(16,.lst (to.map (V.int .i64))),(17,.int .i64 (to.map (V.int .i64)).length),(18,.int .i64 ((k+1:Nat):Int))],[some (.row 5 [.agg [.sl 1 0 S.T.length,.sl 2 0 S.F.length,.nils,.nils,.bool false]]),some (.row 1 (S.T.map (V.int .i64))),some (.row 1 (CC (Ab 0 (to.take (k+1)) G))),some (.row 1 ((AF (Ab 0 (to.take (k+1)) G) 0).map (V.int .i64))),some (.row 1 ((AF (Ab 0 (to.take (k+1)) G) 1).map (V.int .i64))),some (.row 1 ((AF (Ab 0 (to.take (k+1)) G) 2).map (V.int .i64))),some (.row 1 ((AF (Ab 0 (to.take (k+1)) G) 3).map (V.int .i64))),some (.hid vs [.ptr 0 0 0,.lst (fr.map (V.int .i64)),.lst (to.map (V.int .i64))])]⟩:ES):=by
            have e0:=KP (F:=H) (i:=0) (by omega) (by omega) q
            rw [show 3+0=3 from rfl] at e0
            rw [hne,e0,Ii (by omega) q,CO (j:=1) (i:=0) (by omega) (by decide) (AF H 0++[q]),CO (j:=2) (i:=0) (by omega) (by decide) (AF H 0++[q]),CO (j:=3) (i:=0) (by omega) (by decide) (AF H 0++[q]),HB]
            rfl
          have gs2':(AK 3 (CC H))[0+Int.toNat 0]?=some .any:=gs2
          generalize (AF H 0).length=m at*
          generalize (AF H 0).map (V.int .i64)=R0 at*
          generalize (AF H 1).map (V.int .i64)=R1 at*
          generalize (AF H 2).map (V.int .i64)=R2 at*
          generalize (AF H 3).map (V.int .i64)=R3 at*
          generalize CC H=L at*
          generalize S.T.map (V.int .i64)=T0 at*
          conv=>whnf
          repeat' (first|(refine AN (by first|assumption|omega) ?_;conv=>whnf)|(refine Af (by first|assumption|omega) ?_;conv=>whnf)|(refine AS (by omega) ?_;conv=>whnf)|(refine AQ (by assumption) ?_;conv=>whnf)|(refine Dg hE ⟨1,[(0,none),(1,none),(2,none),(3,none),(4,none),(5,none),(6,none),(7,none),(8,none),(9,none),(10,none),(11,none),(12,none),(13,some 0)],some 14,[0,1,2,3,4],[[],[3],[2,3],[1,2,3],[0,1,2,3],[4],[3,4],[2,3,4],[1,2,3,4],[0,1,2,3,4]],[]⟩ [⟨0,[(15,none)],some 16,[],[[]],[]⟩] [[]] [0,1,2,3,4] 14 ?_ ?_;decide +kernel;conv=>whnf)|(refine EqL.mk rfl rfl)|(refine CU 3 hct hC Ce rfl hnr rfl hfz rfl rfl ?_;conv=>whnf)|(refine Af (Nat.le_refl 1) ?_;conv=>whnf)|(refine Af ⟨?_,?_,?_⟩ ?_;omega;(show _+1≤9223372036854775807;omega);(show (_+1)*8≤140737488355328;omega);conv=>whnf)|(refine JD ?_ ?_<;>conv=>whnf))
          all_goals exact AL [0,2,7,10,11,12,16,17,18] [8] (k+1) hlk (by show to.length - (k+1) < to.length - k;omega) hfin
      . obtain rfl:k=to.length:=by omega
        rw [List.take_length]
        conv=>whnf
        repeat' (first|(refine AM (by first|assumption|omega) ?_;conv=>whnf)|(refine AS (by omega) ?_;conv=>whnf))
        refine AJ [0,2,10,11,12] (j+1) hlt (by show fr.length - (j+1) < fr.length - j;omega) ?_
        conv=>whnf
        rw [hend]
        rfl
    . conv=>whnf
      repeat' (first|(refine AN (by first|assumption|omega) ?_;conv=>whnf)|(refine Af (by first|assumption|omega) ?_;conv=>whnf)|(refine AQ (by assumption) ?_;conv=>whnf)|(intro hlen;conv=>whnf))
      refine Ae (fun k:Nat=>⟨50,[(0,.ptr 0 0 0),(2,.lst (to.map (V.int .i64))),(7,.int .i64 1),(10,.lst (fr.map (V.int .i64))),(11,.int .i64 (fr.map (V.int .i64)).length),(12,.int .i64 j),(16,.lst (to.map (V.int .i64))),(17,.int .i64 (to.map (V.int .i64)).length),(18,.int .i64 k)],
          [some (.row 5 [.agg [.sl 1 0 S.T.length,.sl 2 0 S.F.length,.nils,.nils,.bool false]]),some (.row 1 (S.T.map (V.int .i64))),some (.row 1 (CC (Ab 1 (to.take k) G))),some (.row 1 ((AF (Ab 1 (to.take k) G) 0).map (V.int .i64))),some (.row 1 ((AF (Ab 1 (to.take k) G) 1).map (V.int .i64))),some (.row 1 ((AF (Ab 1 (to.take k) G) 2).map (V.int .i64))),some (.row 1 ((AF (Ab 1 (to.take k) G) 3).map (V.int .i64))),some (.hid vs [.ptr 0 0 0,.lst (fr.map (V.int .i64)),.lst (to.map (V.int .i64))])]⟩)
        (fun k=>k≤to.length) (fun k=>to.length - k) 0 hE ?_ ?_ (Nat.zero_le _) ?_
      . kernel_rfl
      . exact AU [0,2,7,10,11,12,16,17,18] rfl
      intro k hk
      by_cases hlk:k < to.length
      . obtain ⟨q,hq⟩:∃q,to[k]?=some q:=⟨_,List.getElem?_eq_getElem hlk⟩
        have gq:(to.map (V.int .i64))[k]?=some (.int .i64 q):=by rw [List.getElem?_map,hq];rfl
        have hGl:=EZ 1 (to.take k) G
        have hGb:=Fk (i:=1) (to:=to.take k) hFb (fun x hx=>hto x (List.mem_of_mem_take hx))
        have hne:Ab 1 (to.take (k+1)) G=DF 1 q (Ab 1 (to.take k) G):=by
          rw [List.take_add_one,hq]
          exact F0 _ _ _ _
        generalize Ab 1 (to.take k) G=H at*
        have hrl:(AF H 1).length≤S.F.length:=by
          unfold AF
          rw [List.getD_eq_getElem?_getD]
          cases hg:H[1]? with
          | none=>exact Nat.zero_le _
          | some r0=>exact G9 (hGb r0 (List.mem_of_getElem? hg))
        have hrm:((AF H 1).map (V.int .i64)).length=(AF H 1).length:=by simp
        have gs:=KO (F:=H) (i:=1) (by omega)
        have gs2:=F1 (F:=H) (i:=1) (by omega)
        have hct:=EP (AF H 1) q
        have hnr:=AE (AF H 1)
        have hfz:[(V.sl 4 0 (AF H 1).length).frz 4 ((AF H 1).map (V.int .i64)),V.int .i64 q]=[.lst ((AF H 1).map (V.int .i64)),V.int .i64 q]:=by rw [BY 4 _ (by simp)]
        by_cases hm:q∈AF H 1
        . rw [decide_eq_true hm] at hct
          have h1:DF 1 q H=H:=if_pos hm
          rw [h1] at hne
          have hfin:(⟨50,[(0,.ptr 0 0 0),(2,.lst (to.map (V.int .i64))),(7,.int .i64 1),(10,.lst (fr.map (V.int .i64))),(11,.int .i64 (fr.map (V.int .i64)).length),(12,.int .i64 j),(16,.lst (to.map (V.int .i64))),(17,.int .i64 (to.map (V.int .i64)).length),(18,.int .i64 ((k:Int)+1))],[some (.row 5 [.agg [.sl 1 0 S.T.length,.sl 2 0 S.F.length,.nils,.nils,.bool false]]),some (.row 1 (S.T.map (V.int .i64))),some (.row 1 (CC H)),some (.row 1 ((AF H 0).map (V.int .i64))),some (.row 1 ((AF H 1).map (V.int .i64))),some (.row 1 ((AF H 2).map (V.int .i64))),some (.row 1 ((AF H 3).map (V.int .i64))),some (.hid vs [.ptr 0 0 0,.lst (fr.map (V.int .i64)),.lst (to.map (V.int .i64))])]⟩:ES)=(⟨50,[(0,.ptr 0 0 0),(2,.lst (to.map (V.int .i64))),(7,.int .i64 1),(10,.lst (fr.map (V.int .i64))),(11,.int .i64 (fr.map (V.int .i64)).length),(12,.int .i64 j),(16,.lst (to.map (V.int .i64))),(17,.int .i64 (to.map (V.int .i64)).length),(18,.int .i64 ((k+1:Nat):Int))],[some (.row 5 [.agg [.sl 1 0 S.T.length,.sl 2 0 S.F.length,.nils,.nils,.bool false]]),some (.row 1 (S.T.map (V.int .i64))),some (.row 1 (CC (Ab 1 (to.take (k+1)) G))),some (.row 1 ((AF (Ab 1 (to.take (k+1)) G) 0).map (V.int .i64))),some (.row 1 ((AF (Ab 1 (to.take (k+1)) G) 1).map (V.int .i64))),some (.row 1 ((AF (Ab 1 (to.take (k+1)) G) 2).map (V.int .i64))),some (.row 1 ((AF (Ab 1 (to.take (k+1)) G) 3).map (V.int .i64))),some (.hid vs [.ptr 0 0 0,.lst (fr.map (V.int .i64)),.lst (to.map (V.int .i64))])]⟩:ES):=by
            rw [hne]
            rfl
          generalize (AF H 1).length=m at*
          generalize (AF H 0).map (V.int .i64)=R0 at*
          generalize (AF H 1).map (V.int .i64)=R1 at*
          generalize (AF H 2).map (V.int .i64)=R2 at*
          generalize (AF H 3).map (V.int .i64)=R3 at*
          generalize CC H=L at*
          conv=>whnf
          repeat' (first|(refine AN (by first|assumption|omega) ?_;conv=>whnf)|(refine Af (by first|assumption|omega) ?_;conv=>whnf)|(refine AS (by omega) ?_;conv=>whnf)|(refine AQ (by assumption) ?_;conv=>whnf)|(refine CU 4 hct hC Ce rfl hnr rfl hfz rfl rfl ?_;conv=>whnf))
          exact AJ [0,2,7,10,11,12,16,17,18] (k+1) hlk (by show to.length - (k+1) < to.length - k;omega) hfin
        . rw [decide_eq_false hm] at hct
          have h1:DF 1 q H=H.set 1 (AF H 1++[q]):=if_neg hm
          rw [h1] at hne
          have hfin:(⟨50,[(0,.ptr 0 0 0),(2,.lst (to.map (V.int .i64))),(7,.int .i64 1),(10,.lst (fr.map (V.int .i64))),(11,.int .i64 (fr.map (V.int .i64)).length),(12,.int .i64 j),(16,.lst (to.map (V.int .i64))),(17,.int .i64 (to.map (V.int .i64)).length),(18,.int .i64 ((k:Int)+1))],[some (.row 5 [.agg [.sl 1 0 S.T.length,.sl 2 0 S.F.length,.nils,.nils,.bool false]]),some (.row 1 (AK 8 (AK 4 (S.T.map (V.int .i64))))),some (.row 1 (AK 8 ((AK 4 (CC H)).set 1 (.sl 4 0 ((AF H 1).length+1))))),some (.row 1 (AK 8 (AK 4 ((AF H 0).map (V.int .i64))))),some (.row 1 (AK 8 (AK 4 (List.take (AF H 1).length (List.drop 0 ((AF H 1).map (V.int .i64)))++[V.int .i64 q])))),some (.row 1 (AK 8 (AK 4 ((AF H 2).map (V.int .i64))))),some (.row 1 (AK 8 (AK 4 ((AF H 3).map (V.int .i64))))),some (.hid vs [.ptr 0 0 0,.lst (fr.map (V.int .i64)),.lst (to.map (V.int .i64))])]⟩:ES)=(⟨50,[(0,.ptr 0 0 0),(2,.lst (to.map (V.int .i64))),(7,.int .i64 1),(10,.lst (fr.map (V.int .i64))),(11,.int .i64 (fr.map (V.int .i64)).length),(12,.int .i64 j),(16,.lst (to.map (V.int .i64))),(17,.int .i64 (to.map (V.int .i64)).length),(18,.int .i64 ((k+1:Nat):Int))],[some (.row 5 [.agg [.sl 1 0 S.T.length,.sl 2 0 S.F.length,.nils,.nils,.bool false]]),some (.row 1 (S.T.map (V.int .i64))),some (.row 1 (CC (Ab 1 (to.take (k+1)) G))),some (.row 1 ((AF (Ab 1 (to.take (k+1)) G) 0).map (V.int .i64))),some (.row 1 ((AF (Ab 1 (to.take (k+1)) G) 1).map (V.int .i64))),some (.row 1 ((AF (Ab 1 (to.take (k+1)) G) 2).map (V.int .i64))),some (.row 1 ((AF (Ab 1 (to.take (k+1)) G) 3).map (V.int .i64))),some (.hid vs [.ptr 0 0 0,.lst (fr.map (V.int .i64)),.lst (to.map (V.int .i64))])]⟩:ES):=by
            have e0:=KP (F:=H) (i:=1) (by omega) (by omega) q
            rw [show 3+1=4 from rfl] at e0
            rw [hne,e0,Ii (by omega) q,CO (j:=0) (i:=1) (by omega) (by decide) (AF H 1++[q]),CO (j:=2) (i:=1) (by omega) (by decide) (AF H 1++[q]),CO (j:=3) (i:=1) (by omega) (by decide) (AF H 1++[q]),HB]
            rfl
          have gs2':(AK 4 (CC H))[0+Int.toNat 1]?=some .any:=gs2
          generalize (AF H 1).length=m at*
          generalize (AF H 0).map (V.int .i64)=R0 at*
          generalize (AF H 1).map (V.int .i64)=R1 at*
          generalize (AF H 2).map (V.int .i64)=R2 at*
          generalize (AF H 3).map (V.int .i64)=R3 at*
          generalize CC H=L at*
          generalize S.T.map (V.int .i64)=T0 at*
          conv=>whnf
          repeat' (first|(refine AN (by first|assumption|omega) ?_;conv=>whnf)|(refine Af (by first|assumption|omega) ?_;conv=>whnf)|(refine AS (by omega) ?_;conv=>whnf)|(refine AQ (by assumption) ?_;conv=>whnf)|(refine Dg hE ⟨1,[(0,none),(1,none),(2,none),(3,none),(4,none),(5,none),(6,none),(7,none),(8,none),(9,none),(10,none),(11,none),(12,none),(13,some 0)],some 14,[0,1,2,3,4],[[],[3],[2,3],[1,2,3],[0,1,2,3],[4],[3,4],[2,3,4],[1,2,3,4],[0,1,2,3,4]],[]⟩ [⟨0,[(15,none)],some 16,[],[[]],[]⟩] [[]] [0,1,2,3,4] 14 ?_ ?_;decide +kernel;conv=>whnf)|(refine EqL.mk rfl rfl)|(refine CU 4 hct hC Ce rfl hnr rfl hfz rfl rfl ?_;conv=>whnf)|(refine Af (Nat.le_refl 1) ?_;conv=>whnf)|(refine Af ⟨?_,?_,?_⟩ ?_;omega;(show _+1≤9223372036854775807;omega);(show (_+1)*8≤140737488355328;omega);conv=>whnf)|(refine JD ?_ ?_<;>conv=>whnf))
          all_goals exact AL [0,2,7,10,11,12,16,17,18] [8] (k+1) hlk (by show to.length - (k+1) < to.length - k;omega) hfin
      . obtain rfl:k=to.length:=by omega
        rw [List.take_length]
        conv=>whnf
        repeat' (first|(refine AM (by first|assumption|omega) ?_;conv=>whnf)|(refine AS (by omega) ?_;conv=>whnf))
        refine AJ [0,2,10,11,12] (j+1) hlt (by show fr.length - (j+1) < fr.length - j;omega) ?_
        conv=>whnf
        rw [hend]
        rfl
    . conv=>whnf
      repeat' (first|(refine AN (by first|assumption|omega) ?_;conv=>whnf)|(refine Af (by first|assumption|omega) ?_;conv=>whnf)|(refine AQ (by assumption) ?_;conv=>whnf)|(intro hlen;conv=>whnf))
      refine Ae (fun k:Nat=>⟨50,[(0,.ptr 0 0 0),(2,.lst (to.map (V.int .i64))),(7,.int .i64 2),(10,.lst (fr.map (V.int .i64))),(11,.int .i64 (fr.map (V.int .i64)).length),(12,.int .i64 j),(16,.lst (to.map (V.int .i64))),(17,.int .i64 (to.map (V.int .i64)).length),(18,.int .i64 k)],
          [some (.row 5 [.agg [.sl 1 0 S.T.length,.sl 2 0 S.F.length,.nils,.nils,.bool false]]),some (.row 1 (S.T.map (V.int .i64))),some (.row 1 (CC (Ab 2 (to.take k) G))),some (.row 1 ((AF (Ab 2 (to.take k) G) 0).map (V.int .i64))),some (.row 1 ((AF (Ab 2 (to.take k) G) 1).map (V.int .i64))),some (.row 1 ((AF (Ab 2 (to.take k) G) 2).map (V.int .i64))),some (.row 1 ((AF (Ab 2 (to.take k) G) 3).map (V.int .i64))),some (.hid vs [.ptr 0 0 0,.lst (fr.map (V.int .i64)),.lst (to.map (V.int .i64))])]⟩)
        (fun k=>k≤to.length) (fun k=>to.length - k) 0 hE ?_ ?_ (Nat.zero_le _) ?_
      . kernel_rfl
      . exact AU [0,2,7,10,11,12,16,17,18] rfl
      intro k hk
      by_cases hlk:k < to.length
      . obtain ⟨q,hq⟩:∃q,to[k]?=some q:=⟨_,List.getElem?_eq_getElem hlk⟩
        have gq:(to.map (V.int .i64))[k]?=some (.int .i64 q):=by rw [List.getElem?_map,hq];rfl
        have hGl:=EZ 2 (to.take k) G
        have hGb:=Fk (i:=2) (to:=to.take k) hFb (fun x hx=>hto x (List.mem_of_mem_take hx))
        have hne:Ab 2 (to.take (k+1)) G=DF 2 q (Ab 2 (to.take k) G):=by
          rw [List.take_add_one,hq]
          exact F0 _ _ _ _
        generalize Ab 2 (to.take k) G=H at*
        have hrl:(AF H 2).length≤S.F.length:=by
          unfold AF
          rw [List.getD_eq_getElem?_getD]
          cases hg:H[2]? with
          | none=>exact Nat.zero_le _
          | some r0=>exact G9 (hGb r0 (List.mem_of_getElem? hg))
        have hrm:((AF H 2).map (V.int .i64)).length=(AF H 2).length:=by simp
        have gs:=KO (F:=H) (i:=2) (by omega)
        have gs2:=F1 (F:=H) (i:=2) (by omega)
        have hct:=EP (AF H 2) q
        have hnr:=AE (AF H 2)
        have hfz:[(V.sl 5 0 (AF H 2).length).frz 5 ((AF H 2).map (V.int .i64)),V.int .i64 q]=[.lst ((AF H 2).map (V.int .i64)),V.int .i64 q]:=by rw [BY 5 _ (by simp)]
        by_cases hm:q∈AF H 2
        . rw [decide_eq_true hm] at hct
          have h1:DF 2 q H=H:=if_pos hm
          rw [h1] at hne
          have hfin:(⟨50,[(0,.ptr 0 0 0),(2,.lst (to.map (V.int .i64))),(7,.int .i64 2),(10,.lst (fr.map (V.int .i64))),(11,.int .i64 (fr.map (V.int .i64)).length),(12,.int .i64 j),(16,.lst (to.map (V.int .i64))),(17,.int .i64 (to.map (V.int .i64)).length),(18,.int .i64 ((k:Int)+1))],[some (.row 5 [.agg [.sl 1 0 S.T.length,.sl 2 0 S.F.length,.nils,.nils,.bool false]]),some (.row 1 (S.T.map (V.int .i64))),some (.row 1 (CC H)),some (.row 1 ((AF H 0).map (V.int .i64))),some (.row 1 ((AF H 1).map (V.int .i64))),some (.row 1 ((AF H 2).map (V.int .i64))),some (.row 1 ((AF H 3).map (V.int .i64))),some (.hid vs [.ptr 0 0 0,.lst (fr.map (V.int .i64)),.lst (to.map (V.int .i64))])]⟩:ES)=(⟨50,[(0,.ptr 0 0 0),(2,.lst (to.map (V.int .i64))),(7,.int .i64 2),(10,.lst (fr.map (V.int .i64))),(11,.int .i64 (fr.map (V.int .i64)).length),(12,.int .i64 j),(16,.lst (to.map (V.int .i64))),(17,.int .i64 (to.map (V.int .i64)).length),(18,.int .i64 ((k+1:Nat):Int))],[some (.row 5 [.agg [.sl 1 0 S.T.length,.sl 2 0 S.F.length,.nils,.nils,.bool false]]),some (.row 1 (S.T.map (V.int .i64))),some (.row 1 (CC (Ab 2 (to.take (k+1)) G))),some (.row 1 ((AF (Ab 2 (to.take (k+1)) G) 0).map (V.int .i64))),some (.row 1 ((AF (Ab 2 (to.take (k+1)) G) 1).map (V.int .i64))),some (.row 1 ((AF (Ab 2 (to.take (k+1)) G) 2).map (V.int .i64))),some (.row 1 ((AF (Ab 2 (to.take (k+1)) G) 3).map (V.int .i64))),some (.hid vs [.ptr 0 0 0,.lst (fr.map (V.int .i64)),.lst (to.map (V.int .i64))])]⟩:ES):=by
            rw [hne]
            rfl
          generalize (AF H 2).length=m at*
          generalize (AF H 0).map (V.int .i64)=R0 at*
          generalize (AF H 1).map (V.int .i64)=R1 at*
          generalize (AF H 2).map (V.int .i64)=R2 at*
          generalize (AF H 3).map (V.int .i64)=R3 at*
          generalize CC H=L at*
          conv=>whnf
          repeat' (first|(refine AN (by first|assumption|omega) ?_;conv=>whnf)|(refine Af (by first|assumption|omega) ?_;conv=>whnf)|(refine AS (by omega) ?_;conv=>whnf)|(refine AQ (by assumption) ?_;conv=>whnf)|(refine CU 5 hct hC Ce rfl hnr rfl hfz rfl rfl ?_;conv=>whnf))
          exact AJ [0,2,7,10,11,12,16,17,18] (k+1) hlk (by show to.length - (k+1) < to.length - k;omega) hfin
        . rw [decide_eq_false hm] at hct
          have h1:DF 2 q H=H.set 2 (AF H 2++[q]):=if_neg hm
          rw [h1] at hne
          have hfin:(⟨50,[(0,.ptr 0 0 0),(2,.lst (to.map (V.int .i64))),(7,.int .i64 2),(10,.lst (fr.map (V.int .i64))),(11,.int .i64 (fr.map (V.int .i64)).length),(12,.int .i64 j),(16,.lst (to.map (V.int .i64))),(17,.int .i64 (to.map (V.int .i64)).length),(18,.int .i64 ((k:Int)+1))],[some (.row 5 [.agg [.sl 1 0 S.T.length,.sl 2 0 S.F.length,.nils,.nils,.bool false]]),some (.row 1 (AK 8 (AK 5 (S.T.map (V.int .i64))))),some (.row 1 (AK 8 ((AK 5 (CC H)).set 2 (.sl 5 0 ((AF H 2).length+1))))),some (.row 1 (AK 8 (AK 5 ((AF H 0).map (V.int .i64))))),some (.row 1 (AK 8 (AK 5 ((AF H 1).map (V.int .i64))))),some (.row 1 (AK 8 (AK 5 (List.take (AF H 2).length (List.drop 0 ((AF H 2).map (V.int .i64)))++[V.int .i64 q])))),some (.row 1 (AK 8 (AK 5 ((AF H 3).map (V.int .i64))))),some (.hid vs [.ptr 0 0 0,.lst (fr.map (V.int .i64)),.lst (to.map (V.int .i64))])]⟩:ES)=(⟨50,[(0,.ptr 0 0 0),(2,.lst (to.map (V.int .i64))),(7,.int .i64 2),(10,.lst (fr.map (V.int .i64))),(11,.int .i64 (fr.map (V.int .i64)).length),(12,.int .i64 j),(16,.lst (to.map (V.int .i64))),(17,.int .i64 (to.map (V.int .i64)).length),(18,.int .i64 ((k+1:Nat):Int))],[some (.row 5 [.agg [.sl 1 0 S.T.length,.sl 2 0 S.F.length,.nils,.nils,.bool false]]),some (.row 1 (S.T.map (V.int .i64))),some (.row 1 (CC (Ab 2 (to.take (k+1)) G))),some (.row 1 ((AF (Ab 2 (to.take (k+1)) G) 0).map (V.int .i64))),some (.row 1 ((AF (Ab 2 (to.take (k+1)) G) 1).map (V.int .i64))),some (.row 1 ((AF (Ab 2 (to.take (k+1)) G) 2).map (V.int .i64))),some (.row 1 ((AF (Ab 2 (to.take (k+1)) G) 3).map (V.int .i64))),some (.hid vs [.ptr 0 0 0,.lst (fr.map (V.int .i64)),.lst (to.map (V.int .i64))])]⟩:ES):=by
            have e0:=KP (F:=H) (i:=2) (by omega) (by omega) q
            rw [show 3+2=5 from rfl] at e0
            rw [hne,e0,Ii (by omega) q,CO (j:=0) (i:=2) (by omega) (by decide) (AF H 2++[q]),CO (j:=1) (i:=2) (by omega) (by decide) (AF H 2++[q]),CO (j:=3) (i:=2) (by omega) (by decide) (AF H 2++[q]),HB]
            rfl
          have gs2':(AK 5 (CC H))[0+Int.toNat 2]?=some .any:=gs2
          generalize (AF H 2).length=m at*
          generalize (AF H 0).map (V.int .i64)=R0 at*
          generalize (AF H 1).map (V.int .i64)=R1 at*
          generalize (AF H 2).map (V.int .i64)=R2 at*
          generalize (AF H 3).map (V.int .i64)=R3 at*
          generalize CC H=L at*
          generalize S.T.map (V.int .i64)=T0 at*
          conv=>whnf
          repeat' (first|(refine AN (by first|assumption|omega) ?_;conv=>whnf)|(refine Af (by first|assumption|omega) ?_;conv=>whnf)|(refine AS (by omega) ?_;conv=>whnf)|(refine AQ (by assumption) ?_;conv=>whnf)|(refine Dg hE ⟨1,[(0,none),(1,none),(2,none),(3,none),(4,none),(5,none),(6,none),(7,none),(8,none),(9,none),(10,none),(11,none),(12,none),(13,some 0)],some 14,[0,1,2,3,4],[[],[3],[2,3],[1,2,3],[0,1,2,3],[4],[3,4],[2,3,4],[1,2,3,4],[0,1,2,3,4]],[]⟩ [⟨0,[(15,none)],some 16,[],[[]],[]⟩] [[]] [0,1,2,3,4] 14 ?_ ?_;decide +kernel;conv=>whnf)|(refine EqL.mk rfl rfl)|(refine CU 5 hct hC Ce rfl hnr rfl hfz rfl rfl ?_;conv=>whnf)|(refine Af (Nat.le_refl 1) ?_;conv=>whnf)|(refine Af ⟨?_,?_,?_⟩ ?_;omega;(show _+1≤9223372036854775807;omega);(show (_+1)*8≤140737488355328;omega);conv=>whnf)|(refine JD ?_ ?_<;>conv=>whnf))
          all_goals exact AL [0,2,7,10,11,12,16,17,18] [8] (k+1) hlk (by show to.length - (k+1) < to.length - k;omega) hfin
      . obtain rfl:k=to.length:=by omega
        rw [List.take_length]
        conv=>whnf
        repeat' (first|(refine AM (by first|assumption|omega) ?_;conv=>whnf)|(refine AS (by omega) ?_;conv=>whnf))
        refine AJ [0,2,10,11,12] (j+1) hlt (by show fr.length - (j+1) < fr.length - j;omega) ?_
        conv=>whnf
        rw [hend]
        rfl
    . conv=>whnf
      repeat' (first|(refine AN (by first|assumption|omega) ?_;conv=>whnf)|(refine Af (by first|assumption|omega) ?_;conv=>whnf)|(refine AQ (by assumption) ?_;conv=>whnf)|(intro hlen;conv=>whnf))
      refine Ae (fun k:Nat=>⟨50,[(0,.ptr 0 0 0),(2,.lst (to.map (V.int .i64))),(7,.int .i64 3),(10,.lst (fr.map (V.int .i64))),(11,.int .i64 (fr.map (V.int .i64)).length),(12,.int .i64 j),(16,.lst (to.map (V.int .i64))),(17,.int .i64 (to.map (V.int .i64)).length),(18,.int .i64 k)],
          [some (.row 5 [.agg [.sl 1 0 S.T.length,.sl 2 0 S.F.length,.nils,.nils,.bool false]]),some (.row 1 (S.T.map (V.int .i64))),some (.row 1 (CC (Ab 3 (to.take k) G))),some (.row 1 ((AF (Ab 3 (to.take k) G) 0).map (V.int .i64))),some (.row 1 ((AF (Ab 3 (to.take k) G) 1).map (V.int .i64))),some (.row 1 ((AF (Ab 3 (to.take k) G) 2).map (V.int .i64))),some (.row 1 ((AF (Ab 3 (to.take k) G) 3).map (V.int .i64))),some (.hid vs [.ptr 0 0 0,.lst (fr.map (V.int .i64)),.lst (to.map (V.int .i64))])]⟩)
        (fun k=>k≤to.length) (fun k=>to.length - k) 0 hE ?_ ?_ (Nat.zero_le _) ?_
      . kernel_rfl
      . exact AU [0,2,7,10,11,12,16,17,18] rfl
      intro k hk
      by_cases hlk:k < to.length
      . obtain ⟨q,hq⟩:∃q,to[k]?=some q:=⟨_,List.getElem?_eq_getElem hlk⟩
        have gq:(to.map (V.int .i64))[k]?=some (.int .i64 q):=by rw [List.getElem?_map,hq];rfl
        have hGl:=EZ 3 (to.take k) G
        have hGb:=Fk (i:=3) (to:=to.take k) hFb (fun x hx=>hto x (List.mem_of_mem_take hx))
        have hne:Ab 3 (to.take (k+1)) G=DF 3 q (Ab 3 (to.take k) G):=by
          rw [List.take_add_one,hq]
          exact F0 _ _ _ _
        generalize Ab 3 (to.take k) G=H at*
        have hrl:(AF H 3).length≤S.F.length:=by
          unfold AF
          rw [List.getD_eq_getElem?_getD]
          cases hg:H[3]? with
          | none=>exact Nat.zero_le _
          | some r0=>exact G9 (hGb r0 (List.mem_of_getElem? hg))
        have hrm:((AF H 3).map (V.int .i64)).length=(AF H 3).length:=by simp
        have gs:=KO (F:=H) (i:=3) (by omega)
        have gs2:=F1 (F:=H) (i:=3) (by omega)
        have hct:=EP (AF H 3) q
        have hnr:=AE (AF H 3)
        have hfz:[(V.sl 6 0 (AF H 3).length).frz 6 ((AF H 3).map (V.int .i64)),V.int .i64 q]=[.lst ((AF H 3).map (V.int .i64)),V.int .i64 q]:=by rw [BY 6 _ (by simp)]
        by_cases hm:q∈AF H 3
        . rw [decide_eq_true hm] at hct
          have h1:DF 3 q H=H:=if_pos hm
          rw [h1] at hne
          have hfin:(⟨50,[(0,.ptr 0 0 0),(2,.lst (to.map (V.int .i64))),(7,.int .i64 3),(10,.lst (fr.map (V.int .i64))),(11,.int .i64 (fr.map (V.int .i64)).length),(12,.int .i64 j),(16,.lst (to.map (V.int .i64))),(17,.int .i64 (to.map (V.int .i64)).length),(18,.int .i64 ((k:Int)+1))],[some (.row 5 [.agg [.sl 1 0 S.T.length,.sl 2 0 S.F.length,.nils,.nils,.bool false]]),some (.row 1 (S.T.map (V.int .i64))),some (.row 1 (CC H)),some (.row 1 ((AF H 0).map (V.int .i64))),some (.row 1 ((AF H 1).map (V.int .i64))),some (.row 1 ((AF H 2).map (V.int .i64))),some (.row 1 ((AF H 3).map (V.int .i64))),some (.hid vs [.ptr 0 0 0,.lst (fr.map (V.int .i64)),.lst (to.map (V.int .i64))])]⟩:ES)=(⟨50,[(0,.ptr 0 0 0),(2,.lst (to.map (V.int .i64))),(7,.int .i64 3),(10,.lst (fr.map (V.int .i64))),(11,.int .i64 (fr.map (V.int .i64)).length),(12,.int .i64 j),(16,.lst (to.map (V.int .i64))),(17,.int .i64 (to.map (V.int .i64)).length),(18,.int .i64 ((k+1:Nat):Int))],[some (.row 5 [.agg [.sl 1 0 S.T.length,.sl 2 0 S.F.length,.nils,.nils,.bool false]]),some (.row 1 (S.T.map (V.int .i64))),some (.row 1 (CC (Ab 3 (to.take (k+1)) G))),some (.row 1 ((AF (Ab 3 (to.take (k+1)) G) 0).map (V.int .i64))),some (.row 1 ((AF (Ab 3 (to.take (k+1)) G) 1).map (V.int .i64))),some (.row 1 ((AF (Ab 3 (to.take (k+1)) G) 2).map (V.int .i64))),some (.row 1 ((AF (Ab 3 (to.take (k+1)) G) 3).map (V.int .i64))),some (.hid vs [.ptr 0 0 0,.lst (fr.map (V.int .i64)),.lst (to.map (V.int .i64))])]⟩:ES):=by
            rw [hne]
            rfl
          generalize (AF H 3).length=m at*
          generalize (AF H 0).map (V.int .i64)=R0 at*
          generalize (AF H 1).map (V.int .i64)=R1 at*
          generalize (AF H 2).map (V.int .i64)=R2 at*
          generalize (AF H 3).map (V.int .i64)=R3 at*
          generalize CC H=L at*
          conv=>whnf
          repeat' (first|(refine AN (by first|assumption|omega) ?_;conv=>whnf)|(refine Af (by first|assumption|omega) ?_;conv=>whnf)|(refine AS (by omega) ?_;conv=>whnf)|(refine AQ (by assumption) ?_;conv=>whnf)|(refine CU 6 hct hC Ce rfl hnr rfl hfz rfl rfl ?_;conv=>whnf))
          exact AJ [0,2,7,10,11,12,16,17,18] (k+1) hlk (by show to.length - (k+1) < to.length - k;omega) hfin
        . rw [decide_eq_false hm] at hct
          have h1:DF 3 q H=H.set 3 (AF H 3++[q]):=if_neg hm
          rw [h1] at hne
          have hfin:(⟨50,[(0,.ptr 0 0 0),(2,.lst (to.map (V.int .i64))),(7,.int .i64 3),(10,.lst (fr.map (V.int .i64))),(11,.int .i64 (fr.map (V.int .i64)).length),(12,.int .i64 j),(16,.lst (to.map (V.int .i64))),(17,.int .i64 (to.map (V.int .i64)).length),(18,.int .i64 ((k:Int)+1))],[some (.row 5 [.agg [.sl 1 0 S.T.length,.sl 2 0 S.F.length,.nils,.nils,.bool false]]),some (.row 1 (AK 8 (AK 6 (S.T.map (V.int .i64))))),some (.row 1 (AK 8 ((AK 6 (CC H)).set 3 (.sl 6 0 ((AF H 3).length+1))))),some (.row 1 (AK 8 (AK 6 ((AF H 0).map (V.int .i64))))),some (.row 1 (AK 8 (AK 6 ((AF H 1).map (V.int .i64))))),some (.row 1 (AK 8 (AK 6 ((AF H 2).map (V.int .i64))))),some (.row 1 (AK 8 (AK 6 (List.take (AF H 3).length (List.drop 0 ((AF H 3).map (V.int .i64)))++[V.int .i64 q])))),some (.hid vs [.ptr 0 0 0,.lst (fr.map (V.int .i64)),.lst (to.map (V.int .i64))])]⟩:ES)=(⟨50,[(0,.ptr 0 0 0),(2,.lst (to.map (V.int .i64))),(7,.int .i64 3),(10,.lst (fr.map (V.int .i64))),(11,.int .i64 (fr.map (V.int .i64)).length),(12,.int .i64 j),(16,.lst (to.map (V.int .i64))),(17,.int .i64 (to.map (V.int .i64)).length),(18,.int .i64 ((k+1:Nat):Int))],[some (.row 5 [.agg [.sl 1 0 S.T.length,.sl 2 0 S.F.length,.nils,.nils,.bool false]]),some (.row 1 (S.T.map (V.int .i64))),some (.row 1 (CC (Ab 3 (to.take (k+1)) G))),some (.row 1 ((AF (Ab 3 (to.take (k+1)) G) 0).map (V.int .i64))),some (.row 1 ((AF (Ab 3 (to.take (k+1)) G) 1).map (V.int .i64))),some (.row 1 ((AF (Ab 3 (to.take (k+1)) G) 2).map (V.int .i64))),some (.row 1 ((AF (Ab 3 (to.take (k+1)) G) 3).map (V.int .i64))),some (.hid vs [.ptr 0 0 0,.lst (fr.map (V.int .i64)),.lst (to.map (V.int .i64))])]⟩:ES):=by
            have e0:=KP (F:=H) (i:=3) (by omega) (by omega) q
            rw [show 3+3=6 from rfl] at e0
            rw [hne,e0,Ii (by omega) q,CO (j:=0) (i:=3) (by omega) (by decide) (AF H 3++[q]),CO (j:=1) (i:=3) (by omega) (by decide) (AF H 3++[q]),CO (j:=2) (i:=3) (by omega) (by decide) (AF H 3++[q]),HB]
            rfl
          have gs2':(AK 6 (CC H))[0+Int.toNat 3]?=some .any:=gs2
          generalize (AF H 3).length=m at*
          generalize (AF H 0).map (V.int .i64)=R0 at*
          generalize (AF H 1).map (V.int .i64)=R1 at*
          generalize (AF H 2).map (V.int .i64)=R2 at*
          generalize (AF H 3).map (V.int .i64)=R3 at*
          generalize CC H=L at*
          generalize S.T.map (V.int .i64)=T0 at*
          conv=>whnf
          repeat' (first|(refine AN (by first|assumption|omega) ?_;conv=>whnf)|(refine Af (by first|assumption|omega) ?_;conv=>whnf)|(refine AS (by omega) ?_;conv=>whnf)|(refine AQ (by assumption) ?_;conv=>whnf)|(refine Dg hE ⟨1,[(0,none),(1,none),(2,none),(3,none),(4,none),(5,none),(6,none),(7,none),(8,none),(9,none),(10,none),(11,none),(12,none),(13,some 0)],some 14,[0,1,2,3,4],[[],[3],[2,3],[1,2,3],[0,1,2,3],[4],[3,4],[2,3,4],[1,2,3,4],[0,1,2,3,4]],[]⟩ [⟨0,[(15,none)],some 16,[],[[]],[]⟩] [[]] [0,1,2,3,4] 14 ?_ ?_;decide +kernel;conv=>whnf)|(refine EqL.mk rfl rfl)|(refine CU 6 hct hC Ce rfl hnr rfl hfz rfl rfl ?_;conv=>whnf)|(refine Af (Nat.le_refl 1) ?_;conv=>whnf)|(refine Af ⟨?_,?_,?_⟩ ?_;omega;(show _+1≤9223372036854775807;omega);(show (_+1)*8≤140737488355328;omega);conv=>whnf)|(refine JD ?_ ?_<;>conv=>whnf))
          all_goals exact AL [0,2,7,10,11,12,16,17,18] [8] (k+1) hlk (by show to.length - (k+1) < to.length - k;omega) hfin
      . obtain rfl:k=to.length:=by omega
        rw [List.take_length]
        conv=>whnf
        repeat' (first|(refine AM (by first|assumption|omega) ?_;conv=>whnf)|(refine AS (by omega) ?_;conv=>whnf))
        refine AJ [0,2,10,11,12] (j+1) hlt (by show fr.length - (j+1) < fr.length - j;omega) ?_
        conv=>whnf
        rw [hend]
        rfl
  . obtain rfl:j=fr.length:=by omega
    rw [List.take_length]
    conv=>whnf
    repeat' (first|(refine AM (by first|assumption|omega) ?_;conv=>whnf)|(refine Aq (AP (BK hE ?_));conv=>whnf))
    all_goals
      refine ⟨rfl,rfl,rfl,?_⟩
      simp only [Bj,Qw,fo,CA]
end Go.Proofs.YtkaiffheakalmaaGreatDoor
namespace Go.Proofs.YtkaiffheakalmaaGreatDoor
open Go.RowKit
structure OkS (S:Ps):Prop where
  len:S.F.length=S.T.length
  bd:BdF S.F.length S.F
structure OkP (S:Ps) (p:Pt) (S':Ps):Prop where
  ok:OkS S'
  le:S.T.length≤S'.T.length
  fi:∀x∈p.first,0≤x∧x < (S'.F.length:Int)
  la:∀x∈p.last,0≤x∧x < (S'.F.length:Int)
  fl:p.first.length+S.T.length≤S'.T.length
  ll:p.last.length+S.T.length≤S'.T.length
theorem BdF.mono {m n:Nat} {F:List (List Int)} (h:BdF m F) (hmn:m≤n):BdF n F:=fun r hr=>⟨(h r hr).1,fun x hx=>by have:=(h r hr).2 x hx;omega⟩
theorem OkS.link {S:Ps} (h:OkS S) {fr to:List Int} (ht:∀x∈to,0≤x∧x < (S.F.length:Int)):OkS ⟨S.T,Au fr to S.F⟩:=
  ⟨by show (Au fr to S.F).length=S.T.length;rw [CA,h.len],by show BdF (Au fr to S.F).length _;rw [CA];exact Lk ht h.bd⟩
theorem OkP.join {S0 S1 S2:Ps} {out q:Pt} (h1:OkP S0 out S1) (h2:OkP S1 q S2) (k:Int):OkP S0 (GJ k out q S2).1 (GJ k out q S2).2:=by
  have hl:=h1.ok.len
  have hl2:=h2.ok.len
  have hle:=h2.le
  have l1:=h1.le
  have f1:=h1.fl
  have f2:=h2.fl
  have g1:=h1.ll
  have g2:=h2.ll
  have hfo:∀x∈out.first,0≤x∧x < (S2.F.length:Int):=fun x hx=>by have:=h1.fi x hx;omega
  have hlo:∀x∈out.last,0≤x∧x < (S2.F.length:Int):=fun x hx=>by have:=h1.la x hx;omega
  unfold GJ
  split
  . refine ⟨h2.ok,(show S0.T.length≤S2.T.length by omega),fun x hx=>?_,fun x hx=>?_,?_,?_⟩
    . rcases List.mem_append.1 hx with h|h
      . exact hfo x h
      . exact h2.fi x h
    . rcases List.mem_append.1 hx with h|h
      . exact hlo x h
      . exact h2.la x h
    . simp only [List.length_append];omega
    . simp only [List.length_append];omega
  . refine ⟨h2.ok.link h2.fi,by show S0.T.length≤S2.T.length;omega,fun x hx=>?_,fun x hx=>?_,?_,?_⟩
    . show 0≤x∧x < ((Au out.last q.first S2.F).length:Int)
      rw [CA]
      simp only at hx
      split at hx
      . rcases List.mem_append.1 hx with h|h
        . exact hfo x h
        . exact h2.fi x h
      . exact hfo x hx
    . show 0≤x∧x < ((Au out.last q.first S2.F).length:Int)
      rw [CA]
      rcases List.mem_append.1 hx with h|h
      . split at h
        . exact hlo x h
        . cases h
      . exact h2.la x h
    . simp only
      split
      . rw [List.length_append];omega
      . omega
    . simp only [List.length_append]
      split
      . omega
      . simp;omega
theorem QG:∀(N:Nat),(∀(x:Ex) (S:Ps),EY x≤N→OkS S→OkP S (BO x S).1 (BO x S).2)∧(∀(k:Int) (ps:List Ex) (S0 S:Ps) (out:Pt),A7 ps≤N→OkP S0 out S→OkP S0 (Cn k ps out S).1 (Cn k ps out S).2):=by
  intro N
  induction N using Nat.strongRecOn with
  | _ N ih=>
    have hE:∀(x:Ex) (S:Ps),EY x≤N→OkS S→OkP S (BO x S).1 (BO x S).2:=by
      rintro ⟨k,t,ps⟩ S hx hS
      rw [CV] at hx
      rw [BO]
      split
      . have hl:=hS.len
        refine ⟨⟨?_,?_⟩,?_,fun x hx=>?_,fun x hx=>?_,?_,?_⟩
        . simp [hl]
        . show BdF (S.F++[[]]).length (S.F++[[]])
          intro r hr
          rcases List.mem_append.1 hr with h|h
          . exact hS.bd.mono (by simp) r h
          . rw [List.mem_singleton] at h;subst h;exact ⟨List.nodup_nil,fun x hx=>by cases hx⟩
        . simp
        . simp at hx ⊢;omega
        . simp at hx ⊢;omega
        . simp;omega
        . simp;omega
      . have h0:OkP S ⟨[],[],decide (k=2)⟩ S:=⟨hS,Nat.le_refl _,fun x hx=>(List.not_mem_nil hx).elim,fun x hx=>(List.not_mem_nil hx).elim,(by simp),(by simp)⟩
        have h1:=(ih (A7 ps) (by omega)).2 k ps S S _ (Nat.le_refl _) h0
        unfold OS
        generalize Cn k ps ⟨[],[],decide (k=2)⟩ S=r at h1
        obtain ⟨p,S'⟩:=r
        simp only at h1 ⊢
        split
        . refine ⟨h1.ok.link h1.fi,h1.le,fun x hx=>?_,fun x hx=>?_,h1.fl,h1.ll⟩
          . show 0≤x∧x < ((Au p.last p.first S'.F).length:Int)
            rw [CA];exact h1.fi x hx
          . show 0≤x∧x < ((Au p.last p.first S'.F).length:Int)
            rw [CA];exact h1.la x hx
        . exact ⟨h1.ok,h1.le,h1.fi,h1.la,h1.fl,h1.ll⟩
    refine ⟨hE,?_⟩
    intro k ps S0 S out hps h
    induction ps generalizing S out with
    | nil=>rw [Cn];exact h
    | cons y ps ih2=>
      rw [Cn]
      have hsz:A7 (y::ps)=EY y+A7 ps:=by rw [A7]
      have hy:=hE y S (by omega) h.ok
      exact ih2 _ _ (by omega) (h.join hy k)
theorem XP (x:Ex) {S:Ps} (h:OkS S):OkP S (BO x S).1 (BO x S).2:=(QG _).1 x S (Nat.le_refl _) h
theorem Tm (k:Int) (ps:List Ex) {S0 S:Ps} {out:Pt} (h:OkP S0 out S):OkP S0 (Cn k ps out S).1 (Cn k ps out S).2:=(QG _).2 k ps S0 S out (Nat.le_refl _) h
theorem JQ {k:Int}:∀{ps:List Ex} {j:Nat} {y:Ex} (out:Pt) (S:Ps),ps[j]?=some y→
    Cn k (ps.take (j+1)) out S=GJ k (Cn k (ps.take j) out S).1 (BO y (Cn k (ps.take j) out S).2).1 (BO y (Cn k (ps.take j) out S).2).2
  | [],j,y,out,S,h=>by simp at h
  | z::ps,0,y,out,S,h=>by
    simp at h;subst h
    simp [Cn]
  | z::ps,j+1,y,out,S,h=>by
    simp only [List.take_succ_cons]
    rw [Cn,Cn]
    exact JQ _ _ (by simpa using h)
end Go.Proofs.YtkaiffheakalmaaGreatDoor
namespace Go.Proofs.YtkaiffheakalmaaGreatDoor
open Go.RowKit
def ca (k:Int):UInt8:=if k=4 then 42 else if k=5 then 43 else 63
def Tn (x:Ex) (b:Int):Bool:=decide ((x.kind=3∧0 < b)∨(x.kind=2∧2≤b))
mutual
def OX:Ex→List UInt8
  | .mk k t ps=>if k=1 then [UInt8.ofNat (97+t.toNat)] else if k=2 then Lib.join (Ro 1 ps) [] else if k=3 then Lib.join (Ro 0 ps) [124] else (Ro 2 ps).headD []++[ca k]
def Ro (b:Int):List Ex→List (List UInt8)
  | []=>[]
  | x::xs=>(if Tn x b=true then 40::(OX x++[41]) else OX x)::Ro b xs
end
def JR (b:Int) (x:Ex):List UInt8:=if Tn x b=true then 40::(OX x++[41]) else OX x
theorem Gs (b:Int):∀ps,Ro b ps=ps.map (JR b)
  | []=>by simp [Ro]
  | x::xs=>by simp [Ro,Gs b xs,JR]
theorem Zk (t:Int) (ps:List Ex):OX (.mk 1 t ps)=[UInt8.ofNat (97+t.toNat)]:=by rw [OX,if_pos rfl]
theorem Zl (t:Int) (ps:List Ex):OX (.mk 2 t ps)=Lib.join (ps.map (JR 1)) []:=by rw [OX,if_neg (by decide),if_pos rfl,Gs]
theorem Zm (t:Int) (ps:List Ex):OX (.mk 3 t ps)=Lib.join (ps.map (JR 0)) [124]:=by rw [OX,if_neg (by decide),if_neg (by decide),if_pos rfl,Gs]
theorem XQ {k:Int} (h:4≤k) (t:Int) (ps:List Ex):OX (.mk k t ps)=(ps.map (JR 2)).headD []++[ca k]:=by rw [OX,if_neg (by omega),if_neg (by omega),if_neg (by omega),Gs]
theorem QH (xs:List (List UInt8)) (sep:List UInt8):(Lib.join xs sep).length≤(xs.map fun x=>x.length+sep.length).sum:=by
  induction xs with
  | nil=>simp [Lib.join,List.intercalate]
  | cons x xs ih=>
    cases xs with
    | nil=>simp [Lib.join,List.intercalate]
    | cons x2 xs=>
      simp only [Lib.join,List.intercalate,List.intersperse,List.flatten_cons,List.length_append,List.map_cons,List.sum_cons] at ih ⊢
      omega
theorem Rp {α:Type} (f g:α→Nat):∀l:List α,(∀x∈l,f x≤g x)→(l.map f).sum≤(l.map g).sum
  | [],_=>by simp
  | x::l,h=>by
    have:=Rp f g l (fun y hy=>h y (by simp [hy]))
    have:=h x (by simp)
    simp;omega
theorem OY {α:Type} (f:α→Nat):∀l:List α,(l.map fun x=>2*f x).sum=2*(l.map f).sum
  | []=>by simp
  | x::l=>by have:=OY f l;simp;omega
theorem To (b:Int) (x:Ex):(JR b x).length≤(OX x).length+2:=by
  unfold JR
  split
  . simp
  . omega
theorem OZ:∀(N:Nat) (x:Ex),EY x≤N→(OX x).length+3≤2*EY x:=by
  intro N
  induction N using Nat.strongRecOn with
  | _ N ih=>
    intro x hx
    cases x with
    | mk k t ps=>
      rw [CV] at hx ⊢
      have hp:∀(b:Int),∀p∈ps,(JR b p).length+1≤2*EY p:=fun b p hp=>by
        have:=Eo hp
        have:=ih (EY p) (by omega) p (Nat.le_refl _)
        have:=To b p
        omega
      have hj:∀(b:Int) (sep:List UInt8),sep.length≤1→(Lib.join (ps.map (JR b)) sep).length≤2*A7 ps:=fun b sep hs=>by
        have h1:=QH (ps.map (JR b)) sep
        rw [List.map_map] at h1
        have h2:=Rp ((fun x:List UInt8=>x.length+sep.length)∘JR b) (fun p=>2*EY p) ps (fun p hp'=>by have:=hp b p hp';simp only [Function.comp];omega)
        rw [OY,←Bi] at h2
        omega
      rw [OX]
      simp only [Gs]
      split
      . simp;omega
      . split
        . have:=hj 1 [] (by simp);omega
        . split
          . have:=hj 0 [124] (by simp);omega
          . cases ps with
            | nil=>simp;omega
            | cons p ps=>
              have:=hp 2 p (by simp)
              have:=Eo (l:=p::ps) (x:=p) (by simp)
              simp;omega
theorem XR {b:Int} {x:Ex}:(JR b x).length+1≤2*EY x:=by
  have:=OZ (EY x) x (Nat.le_refl _)
  have:=To b x
  omega
theorem Zn (b:Int) (sep:List UInt8) (hs:sep.length≤1) (ps:List Ex):(Lib.join (ps.map (JR b)) sep).length≤2*A7 ps:=by
  have h1:=QH (ps.map (JR b)) sep
  rw [List.map_map] at h1
  have h2:=Rp ((fun x:List UInt8=>x.length+sep.length)∘JR b) (fun p=>2*EY p) ps (fun p hp'=>by have:=XR (b:=b) (x:=p);simp only [Function.comp];omega)
  rw [OY,←Bi] at h2
  omega
theorem cb {k t:Int} {ps:List Ex} (h:Lg (.mk k t ps)=0):(1≤k∧k≤6)∧CF k t ps.length=false∧¬(t < 0∨8≤t)∧J5 ps=0:=by
  rw [Lg] at h
  split at h
  . cases h
  . split at h
    . cases h
    . split at h
      . cases h
      . split at h
        . cases h
        . rename_i h1 h2 h3 h4
          exact ⟨by omega,by simpa using h2,h4,h⟩
theorem Oa:∀{ps:List Ex},J5 ps=0→∀p∈ps,Lg p=0
  | x::xs,h,p,hp=>by
    rw [J5] at h
    split at h
    . contradiction
    . rename_i hx
      rcases List.mem_cons.1 hp with rfl|hp
      . omega
      . exact Oa h p hp
def HR (l:List (List UInt8)):List V:=l.map V.str
theorem QI (l:List (List UInt8)):(HR l).length=l.length:=by simp [HR]
theorem Oc (l:List (List UInt8)):BN (HR l):=by
  unfold HR
  rw [N5]
  intro x hx
  obtain ⟨q,_,rfl⟩:=List.mem_map.1 hx
  trivial
theorem JS (id:Nat) (l:List (List UInt8)):AK id (HR l)=HR l:=AA id (Oc l)
theorem XS (a b:List (List UInt8)):HR (a++b)=HR a++HR b:=by simp [HR]
def Ij (k:Int):Int:=if k=3 then 0 else if k≤2 then 1 else 2
set_option maxHeartbeats 16000000 in
theorem Uy:∀(N:Nat) (k t:Int) (ps:List Ex),A7 ps≤N→N≤1048576→Lg (.mk k t ps)=0→Fn1 Tryz.prog 43 [.agg [.int .i64 k,.int .i64 t,.lst (ps.map Ai)]] (fun r=>r= .str (OX (.mk k t ps))):=by
  intro N
  induction N using Nat.strongRecOn with
  | _ N ih=>
    intro k t ps hps hN hok
    obtain ⟨hk,hf,ht,hfl⟩:=cb hok
    have hlm:(ps.map Ai).length=ps.length:=by simp
    have hll:=D2 ps
    refine A4 (T:=Tryz.tt) Tryz.func43 rfl AR AB ?_ ?_ fun C hC hE=>?_
    . kernel_rfl
    . exact Nat.le_of_ble_eq_true (by kernel_rfl)
    conv=>whnf
    repeat' (intro hlen;conv=>whnf)
    refine Ae (fun j:Nat=>⟨72,[(1,.ptr 0 0 0),(3,.sl 1 0 ((ps.take j).map (JR (Ij k))).length),(9,.lst (ps.map Ai)),(10,.int .i64 (ps.map Ai).length),(11,.int .i64 j)],[some (.row 3 [.agg [.int .i64 k,.int .i64 t,.lst (ps.map Ai)]]),some (.row 1 (HR ((ps.take j).map (JR (Ij k)))))]⟩)
      (fun j=>j≤ps.length) (fun j=>ps.length - j) 0 hE ?_ ?_ (Nat.zero_le _) ?_
    . kernel_rfl
    . exact JC 3 1 rfl rfl (AU [1,3,9,10,11] rfl)
    intro j hj
    by_cases hlt:j < ps.length
    . obtain ⟨a,u,qs,hx,hx'⟩:=P2 hlt
      have hmem:=List.mem_of_getElem? hx
      have hp2:=Eo hmem
      have hbd:=OZ _ (.mk a u qs) (Nat.le_refl _)
      rw [CV] at hp2 hbd
      have ih':=ih (A7 qs) (by omega) a u qs (Nat.le_refl _) (by omega) (Oa hfl _ hmem)
      have hjl:((ps.take j).map (JR (Ij k))).length=j:=by simp;omega
      have hWp:((a=3∧k≠3)∨(a=2∧4≤k))→JR (Ij k) (.mk a u qs)=40::(OX (.mk a u qs)++[41]):=fun h=>by
        unfold JR
        rw [if_pos]
        unfold Tn Ij
        refine decide_eq_true ?_
        simp only [Ex.kind]
        (repeat' split)<;>omega
      have hWn:¬((a=3∧k≠3)∨(a=2∧4≤k))→JR (Ij k) (.mk a u qs)=OX (.mk a u qs):=fun h=>by
        unfold JR
        rw [if_neg]
        unfold Tn Ij
        rw [decide_eq_true_eq]
        simp only [Ex.kind]
        (repeat' split)<;>omega
      have hnext:(ps.take (j+1)).map (JR (Ij k))=(ps.take j).map (JR (Ij k))++[JR (Ij k) (.mk a u qs)]:=by
        rw [List.take_add_one,hx,List.map_append];rfl
      generalize hL:(ps.take j).map (JR (Ij k))=L at hjl hnext ⊢
      have hsl:=QI L
      have hpush:∀(s:List UInt8) (x y z:Nat),AK x (AK y (AK z (List.take L.length (List.drop 0 (HR L))++List.take 1 (List.drop 0 [V.str s]))))=HR (L++[s]):=fun s x y z=>by
        rw [List.drop_zero,List.take_of_length_le (by omega),show HR L++List.take 1 (List.drop 0 [V.str s])=HR (L++[s]) by rw [XS];rfl,JS,JS,JS]
      conv=>whnf
      repeat' (first|(refine AN (by first|assumption|omega) ?_;conv=>whnf)|(refine AM (by first|assumption|omega) ?_;conv=>whnf)|(refine Af (by first|assumption|omega) ?_;conv=>whnf)|(refine AS (by omega) ?_;conv=>whnf)|(refine AQ (by assumption) ?_;conv=>whnf)|(refine AC (ih') hC MW ?_ ?_ ?_;kernel_rfl;kernel_rfl;conv=>whnf)|(refine Af (Nat.le_refl 1) ?_;conv=>whnf)|(refine Af ⟨?_,?_,?_⟩ ?_;omega;(show _+1≤9223372036854775807;omega);(show (_+1)*16≤140737488355328;omega);conv=>whnf)|(refine Af (by simp;omega) ?_;conv=>whnf)|(refine He (fun h=>?_) (fun h=>?_)<;>conv=>whnf))
      all_goals refine AL [1,3,9,10,11] [2,3] (j+1) (show j+1≤ps.length by omega) (show ps.length - (j+1) < ps.length - j by omega) ?_
      all_goals conv=>whnf
      all_goals rw [hpush,hnext]
      all_goals first
        | (rw [hWn (by omega),List.length_append];rfl)
        | (rw [hWp (by omega),List.length_append];rfl)
    . have hjn:j=ps.length:=by omega
      subst hjn
      rw [List.take_length]
      generalize hL:ps.map (JR (Ij k))=L
      have hLl:L.length=ps.length:=by rw [←hL];simp
      have hsl:=QI L
      have hfz:∀n,n=L.length→∀s:List UInt8,An 1 (HR L) [.sl 1 0 n,.str s]=[.lst (L.map V.str),.str s]:=fun n hn s=>by
        subst hn
        rw [NX,Wv,if_pos rfl,if_pos (by omega),List.drop_zero,List.take_of_length_le (by omega),NX,ZM,Ww]
        rfl
      have hjb:∀sep:List UInt8,sep.length≤1→(Lib.join L sep).length≤2*A7 ps:=fun sep hs=>by rw [←hL];exact Zn _ sep hs ps
      have hform:∀h:CF k t ps.length=true,False:=fun h=>by rw [hf] at h;cases h
      have hform:¬(k=1∧0 < ps.length)∧¬(k≠1∧t≠0)∧¬(4≤k∧ps.length≠1):=by
        unfold CF at hf
        simp only [Bool.or_eq_false_iff,decide_eq_false_iff_not] at hf
        omega
      rcases (by omega:k=1∨k=2∨k=3∨(k=4∨k=5∨k=6)) with rfl|rfl|rfl|hk4
      . rcases (by omega:t=0∨t=1∨t=2∨t=3∨t=4∨t=5∨t=6∨t=7) with rfl|rfl|rfl|rfl|rfl|rfl|rfl|rfl
        all_goals
          conv=>whnf
          repeat' (first|(refine AN (by first|assumption|omega) ?_;conv=>whnf)|(refine AM (by first|assumption|omega) ?_;conv=>whnf)|(refine Af (by first|assumption|omega) ?_;conv=>whnf)|(refine AS (by omega) ?_;conv=>whnf)|(refine Af (by decide) ?_;conv=>whnf)|(refine AH hE ?_;conv=>whnf))
          exact ⟨rfl,by rw [Zk];rfl⟩
      . have hjs:=Nb L [] (by omega) (by have:=hjb [] (by simp);omega)
        conv=>whnf
        repeat' (first|(refine AN (by first|assumption|omega) ?_;conv=>whnf)|(refine AM (by first|assumption|omega) ?_;conv=>whnf)|(refine CU 1 hjs hC MX rfl (Oc _) rfl (hfz _ rfl _) rfl rfl ?_;conv=>whnf)|(refine AH hE ?_;conv=>whnf))
        exact ⟨rfl,by rw [Zl,←hL];rfl⟩
      . have hjs:=Nb L [124] (by omega) (by have:=hjb [124] (by simp);omega)
        conv=>whnf
        repeat' (first|(refine AN (by first|assumption|omega) ?_;conv=>whnf)|(refine AM (by first|assumption|omega) ?_;conv=>whnf)|(refine CU 1 hjs hC MX rfl (Oc _) rfl (hfz _ rfl _) rfl rfl ?_;conv=>whnf)|(refine AH hE ?_;conv=>whnf))
        exact ⟨rfl,by rw [Zm,←hL];rfl⟩
      . obtain ⟨p,rfl⟩:∃p,ps=[p]:=by
          match ps,(show ps.length=1 by omega) with
          | [p],_=>exact ⟨p,rfl⟩
        have hb2:Ij k=2:=by unfold Ij;rw [if_neg (by omega),if_neg (by omega)]
        rw [hb2] at hL
        simp only [List.map_cons,List.map_nil] at hL
        subst hL
        have hwb:=XR (b:=2) (x:=p)
        have hsz:EY p≤A7 [p]:=Eo (by simp)
        rcases hk4 with rfl|rfl|rfl
        all_goals
          conv=>whnf
          repeat' (first|(refine AM (by first|assumption|omega) ?_;conv=>whnf)|(refine Af (by first|assumption|omega) ?_;conv=>whnf)|(refine AS (by omega) ?_;conv=>whnf)|(refine Af (by decide) ?_;conv=>whnf)|(refine Af (by simp;omega) ?_;conv=>whnf)|(refine BW hE ?_ ?_;decide +kernel;conv=>whnf)|(refine AH hE ?_;conv=>whnf))
          exact ⟨rfl,by rw [XQ (by decide)];rfl⟩
end Go.Proofs.YtkaiffheakalmaaGreatDoor
