/- Copied, stripped. No conditions. -/
import Derived.Test.YtkaiffheakalmaaGreatDoorU9Awx
import Derived.Test.YtkaiffheakalmaaGreatDoorU9Awz
import Derived.Test.YtkaiffheakalmaaGreatDoorU9Data
import Derived.Test.YtkaiffheakalmaaGreatDoorU9Awy
import Derived.Shelf.Strings.OnBuilder
import Derived.RangeFuncNested
import Derived.RangeFuncBound
import Derived.RangeFuncCalls
import Derived.RangeFuncLeaves
import Derived.RangeFuncBox
import Derived.Maps.AppendAt
import Derived.Shelf.Abstract
import Derived.Shelf.RegionOpen
import Derived.WalkKit
import Derived.OwnWalkIn
import Derived.TacticsInMore
import Derived.LoopNIn
import Derived.LoopIn
set_option linter.unusedSimpArgs false
set_option linter.unusedVariables false
set_option maxRecDepth 100000
namespace Go.Proofs.YtkaiffheakalmaaGreatDoor
open Go.RowKit
theorem A6 {k:Nat} {ρ:Nat→Nat}:∀{l:List V},BN l→FC k ρ l l
  | [],_=>by simp [FC]
  | x::l,h=>by
    simp only [FC]
    exact ⟨x,l,rfl,En x h.1,A6 h.2⟩
theorem Lc (u:List (Nat×V)):Cq [] u=u:=by unfold Cq;simp [NR]
def gW (q:Nat) (c c':List V):Prop:=c'.length=c.length∧∀(j:Nat) (x':V),c'[j]?=some x'→∃x,c[j]?=some x∧(x'=x∨(x= .nils∧x'= .sl q 0 0))
theorem TX (q:Nat) (a b:List V):gW q (a++.nils::b) (a++.sl q 0 0::b):=by
  refine ⟨by simp,fun j x' hx=>?_⟩
  rcases Nat.lt_trichotomy j a.length with h|h|h
  . rw [List.getElem?_append_left h] at hx ⊢
    exact ⟨x',hx,.inl rfl⟩
  . subst h
    rw [List.getElem?_append_right (Nat.le_refl _),Nat.sub_self] at hx ⊢
    simp only [List.getElem?_cons_zero,Option.some.injEq] at hx ⊢
    exact ⟨.nils,rfl,.inr ⟨rfl,hx.symm⟩⟩
  . rw [List.getElem?_append_right (by omega)] at hx ⊢
    obtain ⟨m,hm⟩:∃m,j - a.length=m+1:=⟨j - a.length - 1,by omega⟩
    rw [hm] at hx ⊢
    simp only [List.getElem?_cons_succ] at hx ⊢
    exact ⟨x',hx,.inl rfl⟩
theorem TY {C:Ctx} {K:ES→Prop} (p z:Nat) {zz:Nat} {x x':V} {n:Nat} {u:List (Nat×V)} {h:List (Option Ob)} (ho:h[p]?=some (some (.row zz [x]))) (hx:gW (AG h) x.cells x'.cells)
    (ho':(Aj h (.row z []))[p]?=some (some (.row zz [x]))) (hk:UpE C K ⟨n,u,(Aj h (.row z [])).set p (some (.row zz [x']))⟩):UpE C K ⟨n,u,h⟩:=by
  refine ⟨BQ (fun a w hr=>?_) hk.out⟩
  obtain ⟨I,bl,hp0⟩:=hr.parts
  have hp:=hp0.adopt z
  have hpl:p < (Aj h (.row z [])).length:=(List.getElem?_eq_some_iff.1 ho').1
  have hq:Fo bl (AG h) (⟨none,0,z⟩:BI) (AG h)=some ⟨none,0,z⟩:=AX _ _ _
  refine RP.rel (I:=I) (bl:=Fo bl (AG h) ⟨none,0,z⟩) ⟨hp.defers,hp.env,⟨fun id o hoo=>?_,fun id i hi=>?_,hp.heap.apart,hp.heap.own,hp.heap.imm,hp.heap.kept⟩⟩
  . have hoo:((Aj h (.row z [])).set p (some (.row zz [x'])))[id]?=some (some o):=hoo
    by_cases e:id=p
    . subst e
      rw [List.getElem?_set_self hpl] at hoo
      simp only [Option.some.injEq] at hoo
      subst hoo
      obtain ⟨bi,h1,h2,h3,h4⟩:=hp.heap.obj id _ ho'
      refine ⟨bi,h1,h2,fun i y hy=>?_,?_⟩
      . match i,hy with
        | 0,hy=>
          simp at hy
          subst hy
          rw [hx.1];exact h3 0 x rfl
        | i+1,hy=>simp at hy
      . cases hbl:bi.blk with
        | none=>simp only [hbl] at h4;cases h4
        | some b=>
          simp only [hbl] at h4 ⊢
          obtain ⟨cur,e,hg,hsz,hc⟩:=h4
          refine ⟨cur,e,hg,hsz,fun i y j c hy hyc=>?_⟩
          match i,hy with
          | 0,hy=>
            simp at hy
            subst hy
            obtain ⟨c0,hc0,hcc⟩:=hx.2 j c hyc
            obtain ⟨v,hv,h1',hr'⟩:=hc 0 x j c0 rfl hc0
            rcases hcc with rfl|⟨rfl,rfl⟩
            . exact ⟨v,hv,h1',hr'⟩
            . have:=hr'.inv_nils
              subst this
              exact ⟨_,hv,h1',.nsl _ _ _ hq⟩
          | i+1,hy=>simp at hy
    . rw [List.getElem?_set_ne (Ne.symm e)] at hoo
      exact hp.heap.obj id o hoo
  . show ∃o,((Aj h (.row z [])).set p (some (.row zz [x'])))[id]?=some (some o)
    by_cases e:id=p
    . subst e;exact ⟨_,List.getElem?_set_self hpl⟩
    . rw [List.getElem?_set_ne (Ne.symm e)]
      exact hp.heap.live id i hi
theorem Ax {C:Ctx} {K:ES→Prop} {n:Nat} {u:List (Nat×V)} {h:List (Option Ob)} (h':List (Option Ob)) (e:fH h fun x=>x=h') (hk:UpE C K ⟨n,u,h'⟩):UpE C K ⟨n,u,h⟩:=by
  rw [BB] at e
  rw [e];exact hk
theorem TZ {C:Ctx} {P:Program} {f:FuncId} {xs:List V} {objs0 objs1:List Ob} {fixed:List Nat} {R0:V} {fop:Operand} {args:List Operand} {K:V→ES→Prop} {σ:ES} (h:HFn P f xs objs0 fixed (fun r o=>r=R0∧o=objs1)) (hC:C.P=P) (hb:AD P f=true)
    (he:B3 σ fop args=some (f,xs)) (hxs:FC objs0.length (fun j=>j) xs xs) (hobj:∀(j:Nat) (o:Ob),objs0[j]?=some o→σ.heap[j]?=some (some o)∧Mf objs0.length (fun j=>j) o o)
    (M:List Nat) (hM:∀j,j < objs0.length→j∉M→j∈fixed) (hMi:∀j∈M,j < objs0.length) (hR:Bu objs0.length (fun j=>j) R0 R0) (hob:∀(j:Nat) (o:Ob),objs1[j]?=some o→Mf objs0.length (fun j=>j) o o) (hl:objs1.length=objs0.length)
    (hK:K R0 ⟨σ.n,Cq M σ.u,BG (fun j=>j) objs1 0 (BA M σ.heap)⟩):CallN C fop args f xs K σ:=by
  refine FS h hC hb he (fun j=>j) (fun i j _ _ e=>e) hxs (fun j o ho=>⟨o,hobj j o ho⟩) M hM (fun j hj=>⟨j,hMi j hj,rfl⟩) ?_
  rintro r0 objs' ⟨rfl,rfl⟩ _
  refine ⟨r0,objs',hR,hl,fun j o o' ho ho'=>?_,hK⟩
  rw [ho] at ho'
  cases ho'
  exact hob j o ho
theorem Hp {k:Nat} {ρ:Nat→Nat} {z:Nat} {els:List V} (h:BN els):Mf k ρ (.row z els) (.row z els):=⟨els,rfl,A6 h⟩
end Go.Proofs.YtkaiffheakalmaaGreatDoor
namespace Go.Proofs.YtkaiffheakalmaaGreatDoor
open Go.RowKit
theorem FT {C:Ctx} {K:ES→Prop} (z:Nat) {n:Nat} {u:List (Nat×V)} {h:List (Option Ob)} (hk:UpE C K ⟨n,u,Aj h (.row z [])⟩):UpE C K ⟨n,u,h⟩:=by
  refine ⟨BQ (fun a w hr=>?_) hk.out⟩
  obtain ⟨I,bl,hp⟩:=hr.parts
  exact (hp.adopt z).rel
theorem Hq {C:Ctx} {P:Program} {f:FuncId} {z m:Nat} {els' xs0 xs1:List V} {fop:Operand} {args:List Operand} {K:V→ES→Prop} {σ:ES} (h:HFn P f xs0 [.row z []] [] (fun r o=>r= .sl 0 0 m∧o=[.row z els'])) (hC:C.P=P) (hb:AD P f=true)
    (p:Nat) (he:B3 σ fop args=some (f,xs1)) (hx:FC 1 (fun _=>p) xs0 xs1) (hrow:σ.heap[p]?=some (some (.row z []))) (hn':BN els')
    (hK:FP p σ.u fun u=>fH ((Ba p σ.heap).set p (some (.row z els'))) fun h=>K (.sl p 0 m) ⟨σ.n,u,h⟩):CallN C fop args f xs1 K σ:=by
  rw [EU,BB] at hK
  refine FS h hC hb he (fun _=>p) ?_ ?_ ?_ [p] ?_ ?_ ?_
  . intro i j hi hj _
    simp at hi hj
    omega
  . exact hx
  . intro j o ho
    match j,ho with
    | 0,ho=>
      simp at ho
      subst ho
      exact ⟨_,hrow,[],rfl,A6 trivial⟩
    | n+1,ho=>simp at ho
  . intro j _ hn
    exact absurd (by simp) hn
  . intro id hid
    simp at hid
    exact ⟨0,by simp,hid.symm⟩
  . rintro r0 objs' ⟨rfl,rfl⟩ _
    refine ⟨.sl p 0 m,[.row z els'],by simp [Bu],rfl,?_,hK⟩
    intro j o o' ho ho'
    match j,ho,ho' with
    | 0,ho,ho'=>
      simp at ho ho'
      subst ho;subst ho'
      exact ⟨els',rfl,A6 hn'⟩
    | n+1,ho,_=>simp at ho
theorem Bp {C:Ctx} {P:Program} {f:FuncId} {z:Nat} {els els' xs0:List V} {R0:V} {fop:Operand} {args:List Operand} {K:V→ES→Prop} {σ:ES} (h:HFn P f (.ptr 0 0 0::xs0) [.row z els] [0] (fun r o=>r=R0∧o=[.row z els'])) (hC:C.P=P) (hb:AD P f=true)
    (p:Nat) (he:B3 σ fop args=some (f,.ptr p 0 0::xs0)) (hx:BN xs0) (hR:R0.nr) (hrow:σ.heap[p]?=some (some (.row z els))) (hn:BN els) (hn':BN els')
    (hK:fH (σ.heap.set p (some (.row z els'))) fun h=>K R0 ⟨σ.n,σ.u,h⟩):CallN C fop args f (.ptr p 0 0::xs0) K σ:=by
  rw [BB] at hK
  refine FS h hC hb he (fun _=>p) ?_ ?_ ?_ [] ?_ ?_ ?_
  . intro i j hi hj _
    simp at hi hj
    omega
  . simp only [FC]
    exact ⟨.ptr p 0 0,xs0,rfl,by simp [Bu],A6 hx⟩
  . intro j o ho
    match j,ho with
    | 0,ho=>
      simp at ho
      subst ho
      exact ⟨_,hrow,els,rfl,A6 hn⟩
    | n+1,ho=>simp at ho
  . intro j hj _
    simp at hj
    subst hj
    simp
  . intro id hid
    simp at hid
  . rintro r0 objs' ⟨rfl,rfl⟩ _
    refine ⟨r0,[.row z els'],En r0 hR,rfl,?_,by rw [Lc];exact hK⟩
    intro j o o' ho ho'
    match j,ho,ho' with
    | 0,ho,ho'=>
      simp at ho ho'
      subst ho;subst ho'
      exact ⟨els',rfl,A6 hn'⟩
    | n+1,ho,_=>simp at ho
theorem Rep.nl {w:World} {I:Nat→Prop} {bl:Nat→Option BI} {v:Value} {x:V} (h:Rep w I bl v x):Rep w I bl v x.nl:=by
  induction h with
  | pure v x h=>exact .pure _ _ h.nl
  | nsl id base z h=>exact .nsl id base z h
  | sl id off len cap b base z n e h1 h2 h3 h4 h5=>exact .sl id off len cap b base z n e h1 h2 h3 h4 h5
  | esl id off a i h=>exact .esl id off a i h
  | ptr id i j b base z n e h1 h2=>exact .ptr id i j b base z n e h1 h2
  | it id b base z h1=>exact .it id b base z h1
  | agg vs l h1 h2 h3 ih=>
    simp only [V.nl]
    refine .agg vs _ (by rw [BL,h1]) h2 (fun i v c hv hc=>?_)
    obtain ⟨x,hx,rfl⟩:=CX l i c hc
    exact ih i v x hv hx
  | fn f vs l h1 h2 ih=>
    simp only [V.nl]
    refine .fn f vs _ (by rw [BL,h1]) (fun i v c hv hc=>?_)
    obtain ⟨x,hx,rfl⟩:=CX l i c hc
    exact ih i v x hv hx
  | tup vs l h1 h2 ih=>
    simp only [V.nl]
    refine .tup vs _ (by rw [BL,h1]) (fun i v c hv hc=>?_)
    obtain ⟨x,hx,rfl⟩:=CX l i c hc
    exact ih i v x hv hx
theorem Pu {C:Ctx} {K:ES→Prop} (p:Nat) {z n:Nat} {els:List V} {u:List (Nat×V)} {h:List (Option Ob)} (ho:h[p]?=some (some (.row z els))) (hk:UpE C K ⟨n,u,h.set p (some (.row z (J4 els)))⟩):UpE C K ⟨n,u,h⟩:=by
  refine ⟨BQ (fun a w hr=>?_) hk.out⟩
  obtain ⟨I,bl,hp⟩:=hr.parts
  have hpl:p < h.length:=(List.getElem?_eq_some_iff.1 ho).1
  refine RP.rel (I:=I) (bl:=bl) ⟨hp.defers,hp.env,⟨fun id o hoo=>?_,fun id i hi=>?_,hp.heap.apart,hp.heap.own,hp.heap.imm,hp.heap.kept⟩⟩
  . have hoo:(h.set p (some (.row z (J4 els))))[id]?=some (some o):=hoo
    by_cases e:id=p
    . subst e
      rw [List.getElem?_set_self hpl] at hoo
      simp only [Option.some.injEq] at hoo
      subst hoo
      obtain ⟨bi,h1,h2,h3,h4⟩:=hp.heap.obj id _ ho
      refine ⟨bi,h1,h2,fun i x hx=>?_,?_⟩
      . obtain ⟨y,hy,rfl⟩:=CX els i x hx
        rw [IV,BL];exact h3 i y hy
      . cases hbl:bi.blk with
        | none=>simp only [hbl] at h4 ⊢;subst h4;rfl
        | some b=>
          simp only [hbl] at h4 ⊢
          obtain ⟨cur,e,hg,hsz,hc⟩:=h4
          refine ⟨cur,e,hg,by rw [BL];exact hsz,fun i x j c hx hxc=>?_⟩
          obtain ⟨y,hy,rfl⟩:=CX els i x hx
          rw [IV] at hxc
          obtain ⟨c',hc',rfl⟩:=CX _ j c hxc
          obtain ⟨u,hu,h1',hr'⟩:=hc i y j c' hy hc'
          exact ⟨u,hu,h1',hr'.nl⟩
    . rw [List.getElem?_set_ne (Ne.symm e)] at hoo
      exact hp.heap.obj id o hoo
  . show ∃o,(h.set p (some (.row z (J4 els))))[id]?=some (some o)
    by_cases e:id=p
    . subst e;exact ⟨_,List.getElem?_set_self hpl⟩
    . rw [List.getElem?_set_ne (Ne.symm e)]
      exact hp.heap.live id i hi
theorem BD (id:Nat) (a b:List V):AK id (a++b)=AK id a++AK id b:=by
  induction a with
  | nil=>simp [AK]
  | cons x a ih=>simp only [List.cons_append,AK,ih]
theorem Pv (id:Nat) (els a b:List V):An id els (a++b)=An id els a++An id els b:=by
  induction a with
  | nil=>simp [An]
  | cons x a ih=>simp only [List.cons_append,An,ih]
theorem Cr:∀L:List Int,BN (L.map (V.int .i64))
  | []=>trivial
  | x::L=>⟨trivial,Cr L⟩
theorem A3:∀L:List Bool,BN (L.map V.bool)
  | []=>trivial
  | x::L=>⟨trivial,A3 L⟩
theorem G8:∀L:List (List UInt8),BN (L.map V.str)
  | []=>trivial
  | x::L=>⟨trivial,G8 L⟩
theorem dW (a b:Nat) (x:V):x.nr→x.mv a b=x:=by
  refine V.rec (motive_1:=fun x=>x.nr→x.mv a b=x) (motive_2:=fun l=>BN l→Hn a b l=l) ?_ ?_ ?_ ?_ ?_ ?_ ?_ ?_ ?_ ?_ ?_ ?_ ?_ ?_ ?_ ?_ ?_ ?_ ?_ ?_ ?_ x
  all_goals first
    | (intro h;simp [V.mv,Hn];done)
    | (intro a h;simp [V.mv];done)
    | (intro a b h;simp [V.mv];done)
    | (intro a b c h;simp [V.mv];done)
    | (intro a ih h;simp [V.mv];done)
    | (intro l ih h;simp only [V.mv];rw [ih h])
    | (intro f l ih h;simp only [V.mv];rw [ih h])
    | (intro a b c h;exact (h:False).elim)
    | (intro a h;exact (h:False).elim)
    | (intro x l h1 h2 h;simp only [Hn];rw [h1 h.1,h2 h.2])
theorem EB (a b:Nat):∀{l:List V},BN l→Hn a b l=l
  | [],_=>by simp [Hn]
  | x::l,h=>by simp only [Hn];rw [dW a b x h.1,EB a b h.2]
theorem IW (l:List Bool) (hl:l.length≤1048576):HFn Tryz.prog 45 [.lst (l.map V.bool)] [.row 1 []] [] (fun r o=>r= .sl 0 0 l.length∧o=[.row 1 (l.map V.bool)]):=by
  have hlm:(l.map V.bool).length=l.length:=by simp
  have hcl:∀y∈l.map V.bool,y.cells.length=1:=fun y hy=>by obtain ⟨q,_,rfl⟩:=List.mem_map.1 hy;rfl
  have hkl:AK 2 (List.take 0 (List.drop 0 [])++l.map V.bool)=l.map V.bool:=by rw [List.drop_nil,List.take_nil,List.nil_append,AA _ (A3 l)]
  refine HO (T:=Tryz.tt) Tryz.func45 rfl AR AB ?_ ?_ fun C vs hC hE=>?_
  . kernel_rfl
  . exact Nat.le_of_ble_eq_true (by kernel_rfl)
  conv=>whnf
  repeat' (first|(refine Af (by first|assumption|omega) ?_;conv=>whnf)|(refine ⟨hcl,?_⟩;conv=>whnf)|(refine br (fun h=>?_) (fun h=>?_)<;>conv=>whnf)|(intro hlen;conv=>whnf))
  . have h0:l=[]:=by have:=hlen (by assumption);simpa using this
    subst h0
    refine Aq (JC 2 1 rfl rfl (Bc 0 (EO 2 0 (by decide) rfl rfl (AP (BK hE ?_)))))
    conv=>whnf
    exact ⟨rfl,rfl,rfl,rfl⟩
  . refine Aq (Bc 0 (EO 2 0 (by decide) rfl rfl (AP (BK hE ?_))))
    conv=>whnf
    refine ⟨rfl,rfl,?_,?_⟩
    . show V.sl 0 0 (0+(l.map V.bool).length)=V.sl 0 0 l.length
      rw [hlm,Nat.zero_add]
    . rw [hkl]
      show [Ob.row 1 (Hn 2 0 (AK 0 (l.map V.bool)))]=_
      rw [AA _ (A3 l),EB _ _ (A3 l)]
end Go.Proofs.YtkaiffheakalmaaGreatDoor
namespace Go.Proofs.YtkaiffheakalmaaGreatDoor
open Go.RowKit Go.Shelf
theorem Hr {w w':World} (h:Below w.heap.size w w'):Kept (fun _=>False) w w':=by
  refine ⟨h.os,h.tape,h.output,h.size,fun k hk _=>h.block k hk,fun b s hs=>?_⟩
  have hb:b < w.heap.size:=by
    rcases Nat.lt_or_ge b w.heap.size with hb|hb
    . exact hb
    . simp only [World.shape?,Array.getElem?_eq_none hb] at hs
      cases hs
  simp only [World.shape?] at hs ⊢
  rw [h.block b hb]
  exact hs
theorem Hs {w:World} {I:Nat→Prop} {v:Value} {s:List UInt8} (h:Pr w I v (.str s)):v= .string ⟨s.toArray⟩∧s.length≤maxLen:=by
  generalize hx:V.str s=x at h
  cases h with
  | str t ht=>
    cases hx
    exact ⟨by simp,by rw [Array.length_toList];exact ht⟩
  | _=>cases hx
theorem Pw {w:World} {I:Nat→Prop} {v:Value} {xs:List (List UInt8)} (h:Pr w I v (.lst (xs.map V.str))):(∃a c,v= .slice a 0 c∧xs=[])∨
    ∃b off c,v= .slice (some ⟨b,off,none⟩) xs.length c∧I b∧xs.length≤c∧∀(j:Nat) x,(xs.map fun x=>(⟨x.toArray⟩:ByteArray))[j]?=some x→w.cell? ⟨b,off+j,none⟩=some (.string x):=by
  generalize hL:xs.map V.str=L at h
  generalize hx:V.lst L=y at h
  cases h with
  | lnil a c=>
    cases hx
    refine .inl ⟨a,c,rfl,?_⟩
    simpa using hL
  | lst b off c z l u hI hlc hcm hz hcell hone hpr=>
    cases hx
    subst hL
    by_cases h0:xs=[]
    . subst h0
      exact .inl ⟨_,c,rfl,rfl⟩
    . have hl:0 < xs.length:=List.length_pos_iff.2 h0
      have hz1:z=1:=by
        have:=hz 0 (.str xs[0]) (by simp [List.getElem?_eq_getElem hl])
        simpa [V.cells] using this.symm
      subst hz1
      refine .inr ⟨b,off,c,by simp,hI,by simpa using hlc,fun j x hj=>?_⟩
      rw [List.getElem?_map,Option.map_eq_some_iff] at hj
      obtain ⟨s,hs,rfl⟩:=hj
      have hjl:=(List.getElem?_eq_some_iff.1 hs).1
      have h1:=hcell j 0 (by simpa using hjl) (by decide)
      have h2:=hpr j (.str s) 0 (.str s) (by simp [hs]) rfl
      rw [(Hs h2).1] at h1
      simpa using h1
  | _=>cases hx
theorem Ta {P:Program} {f:FuncId} {w:World} {I:Nat→Prop} {vs:List Value} {s:List UInt8} (hI:∀b,I b→b < w.heap.size) (hs:s.length≤140737488355328)
    (h:Calls P f vs.toArray w fun e w'=>e= .returned (.string ⟨s.toArray⟩)∧Below w.heap.size w w'):
    Calls P f vs.toArray w fun e w'=>∃v r I',e= .returned v∧r=V.str s∧Pr w' I' v r∧(∀b,I' b→b < w'.heap.size∧(I b∨w.heap.size≤b))∧Kept (fun _=>False) w w':=by
  refine h.mono ?_
  rintro e w' ⟨rfl,hb⟩
  refine ⟨_,_,I,rfl,rfl,?_,fun b hIb=>⟨Nat.lt_of_lt_of_le (hI b hIb) hb.size,.inl hIb⟩,Hr hb⟩
  have:=Pr.str (w:=w') (I:=I) (⟨s.toArray⟩:ByteArray) (by simp only [ByteArray.size,List.size_toArray,maxLen];omega)
  simpa using this
def Tb:Ren:={
  f:=fun x=>match x with|156=>73|165=>91|166=>80|169=>82|240=>96|241=>102|276=>115|277=>118|n=>n
  t:=fun x=>match x with|31=>35|9=>9|3=>3|4=>4|0=>0|20=>20|72=>138|76=>141|70=>135|37=>136|75=>140|127=>158|164=>177|5=>5|80=>144|n=>n
  g:=fun x=>x}
theorem Px:Lays.n156 Tryz.prog Tb:={
  mixed:=by kernel_rfl
  f156:=Tryz.func73.trans (congrArg some (by kernel_rfl))
  f165:=Tryz.func91.trans (congrArg some (by kernel_rfl))
  f166:=Tryz.func80.trans (congrArg some (by kernel_rfl))
  f169:=Tryz.func82.trans (congrArg some (by kernel_rfl))
  f240:=Tryz.func96.trans (congrArg some (by kernel_rfl))
  f241:=Tryz.func102.trans (congrArg some (by kernel_rfl))
  f276:=Tryz.func115.trans (congrArg some (by kernel_rfl))
  f277:=Tryz.func118.trans (congrArg some (by kernel_rfl))
  t0:=Tryz.underlying0
  a0:=Tryz.isAgg0
  z0:=Tryz.sizeOf0
  v0:=Tryz.zeroValue0
  t3:=Tryz.underlying3
  a3:=Tryz.isAgg3
  z3:=Tryz.sizeOf3
  v3:=Tryz.zeroValue3
  t4:=Tryz.underlying4
  a4:=Tryz.isAgg4
  z4:=Tryz.sizeOf4
  v4:=Tryz.zeroValue4
  t9:=Tryz.underlying9
  a9:=Tryz.isAgg9
  z9:=Tryz.sizeOf9
  v9:=Tryz.zeroValue9
  t20:=Tryz.underlying20
  a20:=Tryz.isAgg20
  z20:=Tryz.sizeOf20
  v20:=Tryz.zeroValue20
  t31:=Tryz.underlying35
  a31:=Tryz.isAgg35
  z31:=Tryz.sizeOf35
  v31:=Tryz.zeroValue35
  t37:=Tryz.underlying136
  a37:=Tryz.isAgg136
  z37:=Tryz.sizeOf136
  v37:=Tryz.zeroValue136
  t70:=Tryz.underlying135
  a70:=Tryz.isAgg135
  z70:=Tryz.sizeOf135
  v70:=Tryz.zeroValue135
  t72:=Tryz.underlying138
  a72:=Tryz.isAgg138
  z72:=Tryz.sizeOf138
  v72:=Tryz.zeroValue138
  t75:=Tryz.underlying140
  a75:=Tryz.isAgg140
  z75:=Tryz.sizeOf140
  v75:=Tryz.zeroValue140
  t76:=Tryz.underlying141
  a76:=Tryz.isAgg141
  z76:=Tryz.sizeOf141
  v76:=Tryz.zeroValue141
  t127:=Tryz.underlying158
  a127:=Tryz.isAgg158
  z127:=Tryz.sizeOf158
  v127:=Tryz.zeroValue158
  t164:=Tryz.underlying177
  a164:=Tryz.isAgg177
  z164:=Tryz.sizeOf177
  v164:=Tryz.zeroValue177}
theorem Na:Builder.Extra Tryz.prog Tb:={
  sizeBuilder:=by kernel_rfl
  liesBuilder:=by kernel_rfl
  t5:=Tryz.underlying5
  a5:=Tryz.isAgg5
  z5:=Tryz.sizeOf5
  v5:=Tryz.zeroValue5
  infoByte:=by kernel_rfl
  cellsByte:=by kernel_rfl
  sizeByte:=by kernel_rfl
  neB5:=by decide}
theorem Nb (xs:List (List UInt8)) (sep:List UInt8) (h1:xs.length≤140737488355328) (h2:(Lib.join xs sep).length≤140737488355328):Fn1 Tryz.prog 73 [.lst (xs.map V.str),.str sep] (fun r=>r= .str (Lib.join xs sep)):=by
  intro w I vs hl hv hI
  obtain ⟨v0,v1,rfl⟩:∃v0 v1,vs=[v0,v1]:=by
    match vs,hl with
    | [a,b],_=>exact ⟨a,b,rfl⟩
  have p0:=hv 0 v0 _ rfl rfl
  obtain ⟨rfl,hsl⟩:=Hs (hv 1 v1 _ rfl rfl)
  refine Ta hI h2 ?_
  rcases Pw p0 with ⟨a,c,rfl,rfl⟩|⟨b,off,c,rfl,hb,hc,hcell⟩
  . refine (Any.strings_Join_none Px Na a c ⟨sep.toArray⟩ w).mono ?_
    rintro e w' ⟨rfl,rfl⟩
    exact ⟨rfl,Below.refl _ _⟩
  . have hm:(xs.map fun x=>(⟨x.toArray⟩:ByteArray)).map (fun x=>x.data.toList)=xs:=by
      rw [List.map_map]
      exact (List.map_congr_left (g:=id) (fun x _=>by simp)).trans (List.map_id xs)
    have hlen:(xs.map fun x=>(⟨x.toArray⟩:ByteArray)).length=xs.length:=by simp
    have:=Any.strings_Join Px Na b off c (xs.map fun x=>(⟨x.toArray⟩:ByteArray)) ⟨sep.toArray⟩ w hcell (hI b hb) (by rw [hlen];exact h1) (by rw [hlen];exact hc) (by rw [hm];simpa using h2)
    rw [hm,hlen] at this
    exact this.mono fun e w' h=>by simpa using h
end Go.Proofs.YtkaiffheakalmaaGreatDoor
namespace Go.Proofs.YtkaiffheakalmaaGreatDoor
open Go.RowKit Go.Shelf
attribute [local go_sem] Oper.semAt_some
structure VBox (w:World) (bp off:Nat) (l:List Int) (u:Value):Prop where
  lt:bp < w.heap.size
  cell:w.cell? ⟨bp,off,none⟩=some u
  is:(l=[]∧∃a cap,u= .slice a 0 cap)∨∃b o cap,u= .slice (some ⟨b,o,none⟩) l.length cap∧b < w.heap.size∧∀(i:Nat) (x:Int),l[i]?=some x→w.cell? ⟨b,o+i,none⟩=some (.int .i64 x)
def gX (v:Value):Int:=match v with|.int _ n=>n|_=>0
set_option maxRecDepth 100000 in
set_option maxHeartbeats 8000000 in
theorem Wx (ly bp off:Nat) (l:List Int) (w0:World) (u:Value) (h:VBox w0 bp off l u) (hl:l.length≤1048576) (J:List Int→World→Prop) (hJ:∀pre W,J pre W→Below w0.heap.size w0 W)
    (hY:∀(pre:List Int) (x:Int) W,J pre W→pre.length < l.length→YieldAt Fence.wide 3 Tryz.prog ly #[.int .i64 x] W fun e W'=>e= .returned (.bool true)∧J (pre++[x]) W')
    (W:World) (h0:J [] W):
    CallsIn Fence.wide 4 Tryz.prog 79 #[.func (.yield ly) #[] #[],.pointer (some ⟨bp,off,none⟩)] W fun e W'=>(∃v,e= .returned v)∧J l W':=by
  have hc:W.cell? ⟨bp,off,none⟩=some u:=((hJ _ _ h0).cell (p:=⟨bp,off,none⟩) h.lt).trans h.cell
  refine callsIn_of_wp Tryz.func79 rfl trivial ?_
  simp only [Tryz.ntmps79,List.size_toArray,List.length_cons,List.length_nil,Nat.reduceAdd,Nat.reduceSub,Array.replicate_succ,Array.replicate_zero,List.push_toArray,List.append_toArray,List.nil_append,List.cons_append]
  rcases h.is with ⟨rfl,a,cap,rfl⟩|⟨b,o,cap,rfl,hb,hel⟩
  . gi_wp2
    gi_loopw [7] (fun vi wr=>vi= .int .i64 0∧wr=W) (fun _ _=>0)
    case atStart=>exact ⟨rfl,rfl⟩
    case round=>
      obtain ⟨rfl,rfl⟩:=hrel
      gi_wp2
      go_end0
      exact ⟨⟨_,rfl⟩,h0⟩
  . gi_wp2
    gi_loopw [7] (fun vi wr=>∃i:Nat,vi= .int .i64 i∧i≤l.length∧J (l.take i) wr) (fun vi _=>l.length - (gX vi).toNat)
    case atStart=>exact ⟨0,rfl,Nat.zero_le _,h0⟩
    case round=>
      obtain ⟨i,rfl,hi,hJr⟩:=hrel
      by_cases hlt:i < l.length
      . have hg:=List.getElem?_eq_getElem hlt
        have hcx:=((hJ _ _ hJr).cell (p:=⟨b,o+i,none⟩) hb).trans (hel i _ hg)
        obtain ⟨fn,tmps,assign,body,hy,hR⟩:=hY (l.take i) l[i] _ hJr (by rw [List.length_take];omega)
        have hlt':(i:Int) < (l.length:Int):=by omega
        gi_wp2
        refine hR.mono ?_
        rintro e W3 ⟨rfl,hJ3⟩
        gi_wp2
        go_roundw
        case rel=>
          refine ⟨i+1,by simp,hlt,?_⟩
          rw [List.take_add_one,hg]
          exact hJ3
        case measure=>
          simp only [gX]
          omega
      . have hge:¬((i:Int) < (l.length:Int)):=by omega
        gi_wp2
        go_end0
        refine ⟨⟨_,rfl⟩,?_⟩
        rw [List.take_of_length_le (by omega)] at hJr
        exact hJr
set_option maxHeartbeats 4000000 in
theorem Re {g:Operand} {p:Tmp} {assign body:Code} {Q:Exit→Act→World→Prop} {a:Act} {w wb:World} {bp off:Nat} {u:Value} (l:List Int) (hl:l.length≤1048576) (hb:VBox wb bp off l u)
    (hg:a.eval g= .func (.func 79) #[] #[.pointer (some ⟨bp,off,none⟩)]) (I:List Int→World→Prop)
    (hIb:∀pre W,I pre W→Below wb.heap.size wb W) (hIp:∀pre W o,I pre W→I pre (W.putObj (w.heap.size+1) o))
    (h0:∀o1 o2,I [] ((w.alloc o1).alloc o2)) (a1:Int→Act)
    (hassign:∀(ly:Nat) (x:Int) (W:World) (K:Act→World→Prop),K (a1 x) W→assign.wpIn (Fence.wide.inRound ly) 3 Tryz.prog (Exit.then K (fun _ _ _=>False)) { tmps:=a.tmps.setIfInBounds p (.int .i64 x),defers:=[]} W)
    (hbody:∀(ly:Nat) (pre:List Int) (x:Int) (W:World),I pre W→pre.length < l.length→w.heap.size+2≤W.heap.size→
      body.wpIn (Fence.wide.inRound ly) 3 Tryz.prog (fun e _ W'=>e= .normal∧I (pre++[x]) W'∧W'.heap[w.heap.size]?=W.heap[w.heap.size]?∧W'.heap[w.heap.size+1]?=W.heap[w.heap.size+1]?) (a1 x) W)
    (hdone:∀W,I l W→W.heap[w.heap.size]?=some (.deferred (some []))→Q .normal { a with defers:={ target:=.collected w.heap.size,args:=#[]}::a.defers} W):
    (Code.rangeFunc g #[p] assign body).wpIn Fence.wide 5 Tryz.prog Q a w:=by
  refine wpIn_rangeFunc ?_
  intro fn hfn
  obtain ⟨rec,hrec⟩:∃rec:LoopState→Loop,rec=fun st=>{ state:=st,pending:=none,fn,tmps:=a.tmps,params:=#[p],assign,body,defers:=w.heap.size}:=⟨_,rfl⟩
  obtain ⟨W1,hW1⟩:∃W1,(w.alloc (.deferred (some []))).alloc (.loop (rec .ready))=W1:=⟨_,rfl⟩
  have hR1:W1.heap[w.heap.size+1]?=some (.loop (rec .ready)):=by
    rw [←hW1];have:=World.alloc_heap_new (w.alloc (.deferred (some []))) (.loop (rec .ready));rwa [World.size_alloc] at this
  have hD1:W1.heap[w.heap.size]?=some (.deferred (some [])):=by
    rw [←hW1,A8 _ _ _ (by simp)];exact World.alloc_heap_new w _
  have hI0:I [] W1:=by rw [←hW1];exact h0 _ _
  have hz1:w.heap.size+2≤W1.heap.size:=by rw [←hW1];simp
  refine ⟨w.heap.size+1,[{ target:=.collected w.heap.size,args:=#[]}],W1,{ target:=.fn (.func 79) #[.pointer (some ⟨bp,off,none⟩)],args:=#[.func (.yield (w.heap.size+1)) #[] #[]]},W1,79,
    #[.func (.yield (w.heap.size+1)) #[] #[],.pointer (some ⟨bp,off,none⟩)],W1,?_,?_,?_,?_,?_,?_⟩
  . rw [←hW1,hrec];exact run_enterLoop_outer _ _ _ _ _
  . simp only [resolve,hg]
    simp [go_sem]
  . intro f' _
    trivial
  . simp [invoke,go_sem]
  . intro h;cases h
  . refine (Wx (w.heap.size+1) bp off l wb u hb hl (fun pre W=>I pre W∧w.heap.size+2≤W.heap.size∧W.heap[w.heap.size+1]?=some (.loop (rec .ready))∧W.heap[w.heap.size]?=some (.deferred (some []))) (fun pre W h=>hIb pre W h.1) ?_ W1 ⟨hI0,hz1,hR1,hD1⟩).mono ?_
    . rintro pre x W ⟨h1,h2,h3,h4⟩ hx
      have hy:=run_yield (P:=Tryz.prog) (args:=#[Value.int .i64 x]) h3 (by rw [hrec];rfl)
      rw [hrec] at hy
      have ef:((#[p]:Array Tmp).zip #[Value.int .i64 x]).foldl (fun tmps (t,a)=>tmps.setIfInBounds t a) a.tmps=a.tmps.setIfInBounds p (.int .i64 x):=by simp
      simp only [] at hy
      rw [ef] at hy
      refine ⟨fn,_,assign,body,hy,roundIn_of_wpIn hfn (hassign _ x W _ ?_)⟩
      refine ⟨_,run_beginRound h3 (by rw [hrec]),?_⟩
      have h3':(W.putObj (w.heap.size+1) (.loop { rec .ready with state:=.busy})).heap[w.heap.size+1]?=some (.loop { rec .ready with state:=.busy}):=World.putObj_heap_same (by omega)
      have h4':(W.putObj (w.heap.size+1) (.loop { rec .ready with state:=.busy})).heap[w.heap.size]?=some (.deferred (some [])):=(World.putObj_heap_other (by omega)).trans h4
      refine wpIn_mono (hbody _ pre x _ (hIp _ _ _ h1) hx (by simpa using h2)) ?_
      rintro e a3 W3 ⟨rfl,q1,q3,q4⟩
      rw [h4'] at q3
      rw [h3'] at q4
      have hlt3:=(Array.getElem?_eq_some_iff.1 q4).1
      refine ⟨_,_,run_endRound none q4,rfl,hIp _ _ _ q1,by simp;omega,?_,(World.putObj_heap_other (by omega)).trans q3⟩
      rw [World.putObj_heap_same hlt3,hrec]
      rfl
    . rintro e W2 ⟨⟨v,rfl⟩,h1,h2,h3,h4⟩
      have:=run_endLoop (P:=Tryz.prog) h3 (by rw [hrec];simp)
      exact ⟨_,_,this,by
        rw [hrec]
        exact hdone _ (hIp _ _ _ h1) ((World.putObj_heap_other (by omega)).trans h4)⟩
theorem Tc {x:Int}:∀u∈[Value.int .i64 x],u.oneCell'=true:=by
  intro u hu
  rw [List.mem_singleton] at hu
  subst hu
  rfl
theorem Td:(Tryz.prog.info? 3).map (fun i=>(i.zero,i.size,i.bytes))=some (some (.int .i64 0),1,8):=by kernel_rfl
structure SInv (o:Nat) (w0 W:World) (acc:List Int):Prop where
  below:Below o w0 W
  out:∃v,Boxed W o 22 v∧W.ownsRow (o+3) 3 1 v acc.length (acc.map (Value.int .i64))
  size:o+1≤W.heap.size
theorem SInv.put {o:Nat} {w W:World} {a:List Int} (ob:Obj) (h:SInv o w W a):SInv o w (W.putObj (o+1+1) ob) a:=by
  have hk:∀k,k≠o+1+1→(W.putObj (o+1+1) ob).heap[k]?=W.heap[k]?:=fun k hk=>World.putObj_heap_other hk
  obtain ⟨hbel,⟨u,hv,hrow⟩,hsz⟩:=h
  refine ⟨⟨hbel.os,hbel.tape,hbel.output,by simpa using hbel.size,fun k hlt=>(hk k (by omega)).trans (hbel.block k hlt)⟩,⟨u,(hk o (by omega)).trans hv,hrow.kept (grownBy_putObj' W (o+1+1) ob) ?_⟩,by simpa using hsz⟩
  cases hvb:u.ownBlock with
  | none=>exact .inl rfl
  | some b=>exact .inr (fun e=>by cases e;have:=(hrow.lt _ hvb).1;omega)
theorem SInv.alloc {o:Nat} {w W:World} {a:List Int} (ob:Obj) (h:SInv o w W a):SInv o w (W.alloc ob) a:=by
  obtain ⟨hbel,⟨u,hv,hrow⟩,hsz⟩:=h
  exact ⟨hbel.alloc (by omega) _,⟨u,hv.alloc _,hrow.alloc _⟩,by simp;omega⟩
def jR (o:Nat) (sv:Value) (x:Int):Act:={ tmps:=#[.slice none 0 0,sv,.pointer (some ⟨o,0,none⟩),undef,.slice none 0 0,.int .i64 x,sv,.int .i64 x,undef,undef,undef,undef,undef],defers:=[]}
set_option maxRecDepth 100000 in
set_option maxHeartbeats 8000000 in
theorem Py (bp off:Nat) (l:List Int) (w:World) (u:Value) (hb:VBox w bp off l u) (hl:l.length≤1048576):
    CallsIn Fence.wide 5 Tryz.prog 93 #[.slice none 0 0,.func (.func 79) #[] #[.pointer (some ⟨bp,off,none⟩)]] w fun e w'=>
      ∃v,e= .returned v∧w'.ownsRow w.heap.size 3 1 v l.length (l.map (Value.int .i64))∧Below w.heap.size w w':=by
  refine callsIn_of_wp_marks Tryz.func93 rfl trivial ?_
  simp only [Tryz.ntmps93,List.size_toArray,List.length_cons,List.length_nil,Nat.reduceAdd,Nat.reduceSub,Array.replicate_succ,Array.replicate_zero,List.push_toArray,List.append_toArray,List.nil_append,List.cons_append]
  gi_wp2
  obtain ⟨W0,hW0⟩:∃W0,w.alloc (.cells #[.slice none 0 0] 22)=W0:=⟨_,rfl⟩
  obtain ⟨o,ho⟩:∃o,w.heap.size=o:=⟨_,rfl⟩
  have hsz:W0.heap.size=o+1:=by rw [←hW0,←ho];simp
  have hP0:SInv o w W0 []:=by
    rw [←hW0]
    refine ⟨(Below.refl o w).alloc (by omega) _,⟨.slice none 0 0,?_,World.ownsRow_nil _ _ _ _⟩,by simp;omega⟩
    have:=World.alloc_heap_new w (.cells #[.slice none 0 0] 22)
    rw [ho] at this
    exact this
  rw [hW0,ho]
  refine Re l hl hb rfl (fun pre W=>SInv o w W pre) ?_ ?_ ?_ (fun x=>jR o (.func (.func 79) #[] #[.pointer (some ⟨bp,off,none⟩)]) x) ?assign ?body ?done
  . intro pre W h;rw [ho];exact h.below
  . intro pre W ob h;rw [hsz];exact h.put ob
  . intro o1 o2;exact (hP0.alloc o1).alloc o2
  case assign=>
    intro ly x W K hK
    unfold jR at hK
    gi_wp2
    exact hK
  case body=>
    intro ly pre x W hP hx hl2
    rw [hsz] at hl2
    obtain ⟨hbel,⟨v,hv,hrow⟩,hs⟩:=hP
    have hvc:=hv.cell
    have hvf:=hv.frozen
    obtain ⟨i0,hi,hz0,hz1,hz2⟩:=info_parts Td
    unfold jR
    gi_wp2_with (gi_at_builtin;refine wpListIn_append_own _ rfl _ _ 22 rfl (o+3) 3 i0 (.int .i64 0) 1 8 Tryz.underlying22 hi hz0 hz1 hz2 rfl (by decide) _ _ _ rfl (hrow.alloc _) ⟨W.heap.size,0,none⟩ 1 1 [.int .i64 x] rfl rfl (cell_one_new _ _ _) Tc (by simp only [maxLen];omega) (by omega) (by simp;omega) ?_;intro v' w1 hown' hgrow _;have hkk:∀k,k < o+3→w1.heap[k]?=W.heap[k]?:=fun k hk=>(by rw [hgrow.block k (by simp;omega) (fun e=>by have:=(hrow.lt k e.symm).1;omega),A8 _ _ _ (by omega)]);have e1:Boxed w1 o 22 v:=(hkk o (by omega)).trans hv;have e3:=e1.cell;have e4:=e1.frozen;obtain ⟨bb,cc,rfl⟩:=ownsRow_succ hown')
    have hkk:∀k,k < o+3→w1.heap[k]?=W.heap[k]?:=fun k hk=>(by rw [hgrow.block k (by simp;omega) (fun e=>by have:=(hrow.lt k e.symm).1;omega),A8 _ _ _ (by omega)])
    have hsz1:=hgrow.size
    rw [World.size_alloc] at hsz1
    have hk2:∀k,k < o+3→k≠o→(w1.setCell ⟨o,0,none⟩ (.slice (some ⟨bb,0,none⟩) (pre.length+1) cc)).heap[k]?=W.heap[k]?:=fun k h1 h2=>(Below.heap_setCell w1 _ _ k h2).trans (hkk k h1)
    refine ⟨⟨⟨?_,?_,?_,?_,?_⟩,⟨_,e1.set _,?_⟩,?_⟩,?_,?_⟩
    . exact hgrow.os.trans hbel.os
    . exact hgrow.tape.trans hbel.tape
    . exact hgrow.output.trans hbel.output
    . have:=hbel.size
      simp only [World.size_setCell]
      omega
    . intro k hlt
      exact (hk2 k (by omega) (by omega)).trans (hbel.block k hlt)
    . have h1:=hown'.kept (grownBy_setCell' w1 o (.slice (some ⟨bb,0,none⟩) (pre.length+1) cc)) (.inr (fun e=>by cases e;have:=(hown'.lt _ rfl).1;omega))
      simpa using h1
    . simp only [World.size_setCell]
      omega
    . exact hk2 _ (by omega) (by omega)
    . exact hk2 _ (by omega) (by omega)
  case done=>
    intro W hP hD
    rw [hsz] at hD ⊢
    obtain ⟨hbel,⟨v,hv,hrow⟩,hs⟩:=hP
    have hvc:=hv.cell
    have hvf:=hv.frozen
    have hl5:o+1 < W.heap.size:=(Array.getElem?_eq_some_iff.1 hD).1
    gi_wp2
    refine ⟨by simp,.inl ⟨_,_,rfl,run_takeDeferred hD,?_⟩⟩
    refine ⟨_,results_tmp rfl _ _ _,v,rfl,?_,?_⟩
    . have h1:=hrow.kept (grownBy_putObj' W (o+1) (.deferred none)) (by
        cases hvb:v.ownBlock with
        | none=>exact .inl rfl
        | some b=>exact .inr (fun e=>by cases e;have:=(hrow.lt _ hvb).1;omega))
      rcases h1 with ⟨g1,g2⟩
      refine ⟨g1,?_⟩
      rcases g2 with g2|⟨g,cap,cur,g3,g4,g5⟩
      . exact .inl g2
      . exact .inr ⟨g,cap,cur,g3,by omega,g5⟩
    . refine ⟨hbel.os,hbel.tape,hbel.output,?_,fun k hlt=>?_⟩
      . have:=hbel.size;simpa using this
      . exact (World.putObj_heap_other (by omega)).trans (hbel.block k (by omega))
set_option maxHeartbeats 4000000 in
theorem IX (bp off:Nat) (l:List Int) (w:World) (u:Value) (hb:VBox w bp off l u) (hl:l.length≤1048576):
    Calls Tryz.prog 77 #[.func (.func 79) #[] #[.pointer (some ⟨bp,off,none⟩)]] w fun e w'=>
      ∃v,e= .returned v∧w'.ownsRow w.heap.size 3 1 v l.length (l.map (Value.int .i64))∧Below w.heap.size w w':=by
  refine (callsIn_wide (n:=6)).1 ?_
  refine callsIn_of_wp Tryz.func77 rfl trivial ?_
  simp only [Tryz.ntmps77,List.size_toArray,List.length_cons,List.length_nil,Nat.reduceAdd,Nat.reduceSub,Array.replicate_succ,Array.replicate_zero,List.push_toArray,List.append_toArray,List.nil_append,List.cons_append]
  gi_wp2_with (refine ⟨trivial,?_⟩;gi_at_call 93;refine (Py bp off l w u hb hl).mono ?_;rintro e w' ⟨v,rfl,h1,h2⟩)
  exact ⟨rfl,_,results_tmp rfl _ _ _,v,rfl,h1,h2⟩
theorem Uh (l:List Int) (hl:l.length≤1048576):HFn Tryz.prog 77 [.fn 79 [.rp [.lst (l.map (V.int .i64))]]] [.row 1 []] [] (fun r o=>r= .sl 0 0 l.length∧o=[.row 1 (l.map (V.int .i64))]):=by
  intro w I bl vs hlen hv hH
  obtain ⟨v0,rfl⟩:∃v0,vs=[v0]:=by
    match vs,hlen with
    | [a],_=>exact ⟨a,rfl⟩
  obtain ⟨us,rfl,hul,hus⟩:=(hv 0 v0 _ rfl rfl).inv_fn
  obtain ⟨p,rfl⟩:∃p,us=[p]:=by
    match us,hul with
    | [a],_=>exact ⟨a,rfl⟩
  obtain ⟨b,off,u,hIb,rfl,hc,h1,hr⟩:=(hus 0 p _ rfl rfl).inv_rp
  have hlt:=(hH.imm b hIb).1
  have hu:=(Rep.pure (bl:=bl) _ _ (hr 0 _ rfl)).inv_lst
  have hbox:VBox w b off l (u 0):=by
    refine ⟨hlt,hc 0 (by simp),?_⟩
    rcases hu.is with ⟨h2,a,cap,h3⟩|⟨b',o,cap,z,uu,hI',g1,g2,g3,g4,g5,g6,g7⟩
    . exact .inl ⟨List.map_eq_nil_iff.1 h2,a,cap,h3⟩
    . refine .inr ⟨b',o,cap,by rw [g3,List.length_map],(hH.imm b' hI').1,fun i x hx=>?_⟩
      have hi:i < l.length:=(List.getElem?_eq_some_iff.1 hx).1
      have hxm:(l.map (V.int .i64))[i]?=some (.int .i64 x):=by rw [List.getElem?_map,hx];rfl
      have hz:z=1:=(g4 i _ hxm).symm
      subst hz
      have e1:=g5 i 0 (by simpa using hi) (by omega)
      have e2:=g7 i _ 0 (.int .i64 x) hxm rfl
      have e3:=(Rep.pure (bl:=bl) _ _ e2).inv_int
      rw [e3] at e1
      simpa using e1
  refine (IX b off l w (u 0) hbox hl).mono ?_
  rintro e w' ⟨v,rfl,hrow,hbel⟩
  let bl':Nat→Option BI:=fun j=>if j=0 then some ⟨v.ownBlock,0,1⟩ else none
  have hbl0:bl' 0=some ⟨v.ownBlock,0,1⟩:=rfl
  have hbl:∀j i,bl' j=some i→j=0∧i=⟨v.ownBlock,0,1⟩:=fun j i h=>by
    by_cases e:j=0
    . subst e;rw [hbl0] at h;cases h;exact ⟨rfl,rfl⟩
    . simp only [bl',if_neg e] at h;cases h
  have hkb:=Hr hbel
  have hob:∀g,v.ownBlock=some g→g < w'.heap.size∧w.heap.size≤g:=fun g hg=>⟨(hrow.lt g hg).2,(hrow.lt g hg).1⟩
  refine ⟨v,.sl 0 0 l.length,[.row 1 (l.map (V.int .i64))],I,bl',rfl,⟨rfl,rfl⟩,rfl,?_,⟨fun id o ho=>?_,fun id i hi=>?_,fun id id' i i' b h1 h2 _ _=>by rw [(hbl _ _ h1).1,(hbl _ _ h2).1],fun id i g h1 h2=>?_,fun k hk=>⟨Nat.lt_of_lt_of_le (hH.imm k hk).1 hbel.size,.inl hk⟩,⟨hkb.os,hkb.tape,hkb.output,hkb.size,fun k hk _=>hkb.block k hk (fun h=>h),hkb.shape⟩⟩,fun j hj=>by cases hj⟩
  . rcases id hrow.2 with ⟨rfl,h0⟩|⟨g,cap,cur,rfl,hg,hb,q1,q2,q3,q4⟩
    . rw [h0]
      exact .nsl 0 0 1 rfl
    . have:=Rep.sl (w:=w') (I:=I) (bl:=bl') 0 0 l.length cap g 0 1 cur.size 3 rfl (by simp [World.shape?,hb]) (by omega) q1 q2
      simpa using this
  . match id,ho with
    | 0,ho=>
      cases ho
      refine ⟨_,hbl0,rfl,fun i x hx=>?_,?_⟩
      . obtain ⟨q,_,rfl⟩:=List.mem_map.1 (List.mem_of_getElem? hx);rfl
      . rcases _root_.id hrow.2 with ⟨rfl,h0⟩|⟨g,cap,cur,rfl,hg,hb,q1,q2,q3,q4⟩
        . show l.map _=[]
          rw [List.length_eq_zero_iff.1 h0]
          rfl
        . refine ⟨cur,3,CellsAt.of hb,?_,fun i x j c hx hxc=>?_⟩
          . rw [List.length_map]
            show 0+l.length*1≤cur.size
            omega
          . obtain ⟨y,hy,rfl⟩:∃y,l[i]?=some y∧V.int .i64 y=x:=by
              rw [List.getElem?_map,Option.map_eq_some_iff] at hx
              exact hx
            have hi:=(List.getElem?_eq_some_iff.1 hy).1
            match j,hxc with
            | 0,hxc=>
              cases hxc
              have e:=congrArg (fun t:List Value=>t[i]?) q4
              simp only [List.getElem?_take,List.getElem?_map,hy,Option.map_some,Nat.mul_one,if_pos hi,Array.getElem?_toList] at e
              exact ⟨_,by rw [show (BI.mk (Value.ownBlock (.slice (some ⟨g,0,none⟩) l.length cap)) 0 1).base+i*1+0=i by show 0+i*1+0=i;omega];exact e,rfl,.pure _ _ (.int _ _)⟩
            | j+1,hxc=>simp [V.cells] at hxc
    | id+1,ho=>simp at ho
  . obtain ⟨rfl,rfl⟩:=hbl _ _ hi
    exact ⟨_,rfl⟩
  . obtain ⟨rfl,rfl⟩:=hbl _ _ h1
    obtain ⟨g1,g2⟩:=hob g h2
    exact ⟨g1,fun h=>by have:=(hH.imm g h).1;omega,.inr g2⟩
end Go.Proofs.YtkaiffheakalmaaGreatDoor
namespace Go.Proofs.YtkaiffheakalmaaGreatDoor
open Go.RowKit
def CB (A:List Int) (j:Nat):Int:=A.getD j 0
theorem FD {A:List Int} {j:Nat} (h:j < A.length):A[j]?=some (CB A j):=by
  unfold CB
  rw [List.getD_eq_getElem?_getD,List.getElem?_eq_getElem h]
  rfl
theorem OM {A:List Int} {i:Nat} (h:i < A.length) (v:Int) (j:Nat):CB (A.set i v) j=if j=i then v else CB A j:=by
  unfold CB
  rw [List.getD_eq_getElem?_getD,List.getD_eq_getElem?_getD,List.getElem?_set]
  by_cases e:i=j
  . subst e;simp [h]
  . rw [if_neg e,if_neg (fun h=>e h.symm)]
theorem ON {A:List Int} {z:Int}:z∈A↔∃p,p < A.length∧CB A p=z:=by
  constructor
  . intro h
    obtain ⟨p,hp⟩:=List.mem_iff_getElem?.1 h
    have hlt:=(List.getElem?_eq_some_iff.1 hp).1
    refine ⟨p,hlt,?_⟩
    rw [FD hlt] at hp
    exact Option.some.inj hp
  . rintro ⟨p,hp,rfl⟩
    exact List.mem_of_getElem? (FD hp)
def ZP (A:List Int) (j:Nat):List Int:=(A.set j (CB A (j - 1))).set (j - 1) (CB A j)
theorem Te (A:List Int) (j:Nat):(ZP A j).length=A.length:=by simp [ZP]
theorem Ld {A:List Int} {j:Nat} (h0:0 < j) (h:j < A.length) (p:Nat):CB (ZP A j) p=if p=j then CB A (j - 1) else if p=j - 1 then CB A j else CB A p:=by
  unfold ZP
  rw [OM (by rw [List.length_set];omega),OM h]
  by_cases e:p=j
  . rw [if_neg (by omega),if_pos e,if_pos e]
  . rw [if_neg e,if_neg e]
theorem ZQ {A:List Int} {j:Nat} (h0:0 < j) (h:j < A.length) (z:Int):z∈ZP A j↔z∈A:=by
  rw [ON,ON,Te]
  constructor
  . rintro ⟨p,hp,e⟩
    rw [Ld h0 h] at e
    split at e
    . exact ⟨j - 1,by omega,e⟩
    . split at e
      . exact ⟨j,h,e⟩
      . exact ⟨p,hp,e⟩
  . rintro ⟨p,hp,e⟩
    by_cases e1:p=j
    . exact ⟨j - 1,by omega,by rw [Ld h0 h,if_neg (by omega),if_pos rfl,←e1];exact e⟩
    . by_cases e2:p=j - 1
      . exact ⟨j,h,by rw [Ld h0 h,if_pos rfl,←e2];exact e⟩
      . exact ⟨p,hp,by rw [Ld h0 h,if_neg e1,if_neg e2];exact e⟩
structure Srt (L A:List Int) (i:Nat):Prop where
  len:A.length=L.length
  mem:∀z,z∈A↔z∈L
  ord:∀p q,p < q→q < i→CB A p≤CB A q
structure Ins (L A:List Int) (i j:Nat):Prop where
  len:A.length=L.length
  mem:∀z,z∈A↔z∈L
  ord:∀p q,p < q→q≤i→q≠j→CB A p≤CB A q
theorem Srt.ins {L A:List Int} {i:Nat} (h:Srt L A i):Ins L A i i:=⟨h.len,h.mem,fun p q h1 h2 h3=>h.ord p q h1 (by omega)⟩
theorem Ins.done {L A:List Int} {i j:Nat} (h:Ins L A i j) (hd:j=0∨CB A (j - 1)≤CB A j) (hj:j≤i):Srt L A (i+1):=by
  refine ⟨h.len,h.mem,fun p q h1 h2=>?_⟩
  by_cases e:q=j
  . subst e
    rcases hd with hd|hd
    . omega
    . by_cases e2:p=q - 1
      . rw [e2];exact hd
      . exact Int.le_trans (h.ord p (q - 1) (by omega) (by omega) (by omega)) hd
  . exact h.ord p q h1 (by omega) e
theorem Ins.step {L A:List Int} {i j:Nat} (h:Ins L A i j) (h0:0 < j) (hj:j≤i) (hi:i < L.length) (hlt:CB A j < CB A (j - 1)):Ins L (ZP A j) i (j - 1):=by
  have hl:=h.len
  refine ⟨by rw [Te,hl],fun z=>by rw [ZQ h0 (by omega),h.mem],fun p q h1 h2 h3=>?_⟩
  have hw:=Ld (A:=A) h0 (by omega)
  rw [hw,hw]
  by_cases e:q=j
  . rw [if_pos e,if_neg (by omega)]
    by_cases e2:p=j - 1
    . rw [if_pos e2];omega
    . rw [if_neg e2]
      exact h.ord p (j - 1) (by omega) (by omega) (by omega)
  . rw [if_neg e,if_neg h3]
    by_cases e1:p=j
    . rw [if_pos e1]
      exact h.ord (j - 1) q (by omega) h2 e
    . rw [if_neg e1]
      by_cases e2:p=j - 1
      . rw [if_pos e2]
        by_cases e3:q < j
        . omega
        . exact h.ord j q (by omega) h2 e
      . rw [if_neg e2]
        exact h.ord p q h1 h2 e
def Rf (L A:List Int):Prop:=Srt L A L.length
theorem Wy (x:Int):Fn1 Tryz.prog 124 [.int .i64 x] (fun r=>r= .bool false):=by
  refine A4 (T:=Tryz.tt) Tryz.func124 rfl AR AB ?_ ?_ fun C hC hE=>?_
  . kernel_rfl
  . exact Nat.le_of_ble_eq_true (by kernel_rfl)
  conv=>whnf
  repeat' (first|(refine AN (by first|assumption|omega) ?_;conv=>whnf)|(refine AH hE ?_;conv=>whnf))
  exact ⟨rfl,rfl⟩
theorem Nc (x y:Int):Fn1 Tryz.prog 110 [.int .i64 x,.int .i64 y] (fun r=>r= .bool (decide (x < y))):=by
  by_cases h:x < y
  . rw [decide_eq_true h]
    refine A4 (T:=Tryz.tt) Tryz.func110 rfl AR AB ?_ ?_ fun C hC hE=>?_
    . kernel_rfl
    . exact Nat.le_of_ble_eq_true (by kernel_rfl)
    conv=>whnf
    repeat' (first|(refine AN (by first|assumption|omega) ?_;conv=>whnf)|(refine AC (Wy x) hC Jz ?_ ?_ ?_;kernel_rfl;kernel_rfl;conv=>whnf)|(refine AH hE ?_;conv=>whnf))
    all_goals exact ⟨rfl,rfl⟩
  . rw [decide_eq_false h]
    refine A4 (T:=Tryz.tt) Tryz.func110 rfl AR AB ?_ ?_ fun C hC hE=>?_
    . kernel_rfl
    . exact Nat.le_of_ble_eq_true (by kernel_rfl)
    conv=>whnf
    repeat' (first|(refine AM (by first|assumption|omega) ?_;conv=>whnf)|(refine AC (Wy x) hC Jz ?_ ?_ ?_;kernel_rfl;kernel_rfl;conv=>whnf)|(refine AH hE ?_;conv=>whnf))
    all_goals exact ⟨rfl,rfl⟩
theorem KM {A:List Int} {j:Nat} (h:j < A.length):(A.map (V.int .i64))[0+Int.toNat (j:Int)]?=some (.int .i64 (CB A j)):=by
  rw [Nat.zero_add,Int.toNat_natCast,List.getElem?_map,FD h]
  rfl
theorem Pz {A:List Int} {j:Nat} (h0:0 < j) (h:j < A.length):(A.map (V.int .i64))[0+Int.toNat ((j:Int) - 1)]?=some (.int .i64 (CB A (j - 1))):=by
  rw [show ((j:Int) - 1)=((j - 1:Nat):Int) by omega]
  exact KM (by omega)
set_option maxHeartbeats 8000000 in
theorem Wz (L:List Int) (h0:0 < L.length) (h12:L.length≤12):HFn Tryz.prog 104 [.sl 0 0 L.length,.int .i64 0,.int .i64 L.length] [.row 1 (L.map (V.int .i64))] [0] (fun r o=>r= .tup []∧∃A,Rf L A∧o=[.row 1 (A.map (V.int .i64))]):=by
  have hbl:Nat.blt 0 L.length=true:=by rw [Nat.blt_eq];exact h0
  refine HO (T:=Tryz.tt) Tryz.func104 rfl AR AB ?_ ?_ fun C vs hC hE=>?_
  . kernel_rfl
  . exact Nat.le_of_ble_eq_true (by kernel_rfl)
  conv=>whnf
  repeat' (refine AS (by omega) ?_;conv=>whnf)
  refine Ae (fun ((i,A):Nat×List Int)=>⟨49,[(0,.sl 0 0 L.length),(1,.int .i64 0),(2,.int .i64 L.length),(6,.int .i64 i)],[some (.row 1 (A.map (V.int .i64))),some (.hid vs [.sl 0 0 L.length,.int .i64 0,.int .i64 L.length])]⟩)
    (fun (i,A)=>1≤i∧i≤L.length∧Srt L A i) (fun (i,_)=>L.length - i) (1,L) hE ?_ ?_ ⟨Nat.le_refl _,h0,rfl,fun z=>Iff.rfl,fun p q h1 h2=>by omega⟩ ?_
  . kernel_rfl
  . refine AU [0,1,2,6] ?_
    conv=>whnf
    rfl
  rintro ⟨i,A⟩ ⟨hi1,hi,hS⟩
  have hAl:=hS.len
  have hAm:(A.map (V.int .i64)).length=A.length:=by simp
  by_cases hlt:i < L.length
  . conv=>whnf
    repeat' (refine AN (by first|assumption|omega) ?_;conv=>whnf)
    refine Ae (fun ((j,A):Nat×List Int)=>⟨49,[(0,.sl 0 0 L.length),(1,.int .i64 0),(2,.int .i64 L.length),(6,.int .i64 i),(7,.int .i64 j)],[some (.row 1 (A.map (V.int .i64))),some (.hid vs [.sl 0 0 L.length,.int .i64 0,.int .i64 L.length])]⟩)
      (fun (j,A)=>j≤i∧Ins L A i j) (fun (j,_)=>j) (i,A) hE ?_ ?_ ⟨Nat.le_refl _,hS.ins⟩ ?_
    . kernel_rfl
    . refine AU [0,1,2,6,7] ?_
      conv=>whnf
      try rfl
    clear hS hAl hAm
    rintro ⟨j,B⟩ ⟨hj,hI⟩
    have hBl:=hI.len
    have hBm:(B.map (V.int .i64)).length=B.length:=by simp
    by_cases hj0:0 < j
    . have g1:=KM (A:=B) (j:=j) (by omega)
      have g2:=Pz (A:=B) hj0 (by omega)
      by_cases hd:CB B j < CB B (j - 1)
      . have hl:=Nc (CB B j) (CB B (j - 1))
        rw [decide_eq_true hd] at hl
        have g3:((B.map (V.int .i64)).set (0+Int.toNat (j:Int)) (.int .i64 (CB B (j - 1))))[0+Int.toNat ((j:Int) - 1)]?=some (.int .i64 (CB B (j - 1))):=by rw [List.getElem?_set_ne (by omega)];exact g2
        repeat' (first|(refine AN (by first|assumption|omega) ?_;conv=>whnf)|(refine Af (by first|assumption|omega) ?_;conv=>whnf)|(refine AS (by omega) ?_;conv=>whnf)|(refine AQ (by assumption) ?_;conv=>whnf)|(refine IQ (hl) hC Jy ?_ ?_ ?_;kernel_rfl;kernel_rfl;conv=>whnf)|(refine BW hE ?_ ?_;decide +kernel;conv=>whnf)|(refine DO hE [⟨0,[(0,none),(1,none),(2,none),(3,none),(4,none),(5,none),(6,none),(7,none),(8,none),(9,none),(10,none),(11,none),(12,none),(13,none),(14,none)],some 15,[2,3,4],[[],[2],[4],[2,4],[3,4],[2,3,4]],[]⟩,⟨0,[(16,none)],some 17,[],[[]],[]⟩] ?_ ?_;decide +kernel;conv=>whnf)|(refine Cy ?_;conv=>whnf)|(refine JD ?_ ?_<;>conv=>whnf))
        all_goals
          refine AJ [0,1,2,6,7] (j - 1,ZP B j) ⟨by omega,hI.step hj0 hj hlt hd⟩ (by show j - 1 < j;omega) ?_
          conv=>whnf
          have e1:((B.map (V.int .i64)).set (0+Int.toNat (j:Int)) (.int .i64 (CB B (j - 1)))).set (0+Int.toNat ((j:Int) - 1)) (.int .i64 (CB B j))=(ZP B j).map (V.int .i64):=by
            rw [show 0+Int.toNat (j:Int)=j by omega,show 0+Int.toNat ((j:Int) - 1)=j - 1 by omega]
            unfold ZP
            rw [List.map_set,List.map_set]
          rw [e1,show (j:Int) - 1=((j - 1:Nat):Int) by omega]
          try rfl
      . have hl:=Nc (CB B j) (CB B (j - 1))
        rw [decide_eq_false hd] at hl
        conv=>whnf
        repeat' (first|(refine AN (by first|assumption|omega) ?_;conv=>whnf)|(refine Af (by first|assumption|omega) ?_;conv=>whnf)|(refine AS (by omega) ?_;conv=>whnf)|(refine AQ (by assumption) ?_;conv=>whnf)|(refine IQ (hl) hC Jy ?_ ?_ ?_;kernel_rfl;kernel_rfl;conv=>whnf)|(refine BW hE ?_ ?_;decide +kernel;conv=>whnf))
        refine AJ [0,1,2,6] (i+1,B) ⟨by omega,hlt,hI.done (.inr (by omega)) hj⟩ (by show L.length - (i+1) < L.length - i;omega) ?_
        conv=>whnf
        rfl
    . obtain rfl:j=0:=by omega
      conv=>whnf
      repeat' (first|(refine AM (by first|assumption|omega) ?_;conv=>whnf)|(refine AS (by omega) ?_;conv=>whnf)|(refine BW hE ?_ ?_;decide +kernel;conv=>whnf))
      refine AJ [0,1,2,6] (i+1,B) ⟨by omega,hlt,hI.done (.inl rfl) hj⟩ (by show L.length - (i+1) < L.length - i;omega) ?_
      conv=>whnf
      rfl
  . obtain rfl:i=L.length:=by omega
    conv=>whnf
    repeat' (refine AM (by first|assumption|omega) ?_;conv=>whnf)
    refine Aq (AP (BK hE ?_))
    conv=>whnf
    refine ⟨rfl,?_,rfl,A,hS,rfl⟩
    simp [Co,Qv,El,hbl,h0]
    exact ⟨0,by decide,by simp [hbl]⟩
theorem JJ {C:Ctx} {P:Program} {f:FuncId} {z n0:Nat} {els xs0:List V} {R0:V} {Q:List V→Prop} {fop:Operand} {args:List Operand} {K:V→ES→Prop} {σ:ES} (h:HFn P f (.sl 0 0 n0::xs0) [.row z els] [0] (fun r o=>r=R0∧∃els',Q els'∧o=[.row z els'])) (hC:C.P=P) (hb:AD P f=true)
    (p:Nat) (he:B3 σ fop args=some (f,.sl p 0 n0::xs0)) (hx:BN xs0) (hR:R0.nr) (hrow:σ.heap[p]?=some (some (.row z els))) (hn:BN els) (hn':∀els',Q els'→BN els')
    (hK:∀els',Q els'→fH (σ.heap.set p (some (.row z els'))) fun h=>K R0 ⟨σ.n,σ.u,h⟩):CallN C fop args f (.sl p 0 n0::xs0) K σ:=by
  refine FS h hC hb he (fun _=>p) ?_ ?_ ?_ [] ?_ ?_ ?_
  . intro i j hi hj _
    simp at hi hj
    omega
  . simp only [FC]
    exact ⟨.sl p 0 n0,xs0,rfl,by simp [Bu],A6 hx⟩
  . intro j o ho
    match j,ho with
    | 0,ho=>
      simp at ho
      subst ho
      exact ⟨_,hrow,els,rfl,A6 hn⟩
    | n+1,ho=>simp at ho
  . intro j hj _
    simp at hj
    subst hj
    simp
  . intro id hid
    simp at hid
  . rintro r0 objs' ⟨rfl,els',hq,rfl⟩ _
    have hK:=hK els' hq
    rw [BB] at hK
    refine ⟨r0,[.row z els'],En r0 hR,rfl,?_,by rw [Lc];exact hK⟩
    intro j o o' ho ho'
    match j,ho,ho' with
    | 0,ho,ho'=>
      simp at ho ho'
      subst ho;subst ho'
      exact ⟨els',rfl,A6 (hn' _ hq)⟩
    | n+1,ho,_=>simp at ho
def IY (L:List Int) (els:List V):Prop:=∃A,Rf L A∧els=A.map (V.int .i64)
theorem IZ {L:List Int}:∀els,IY L els→BN els:=by
  rintro els ⟨A,_,rfl⟩
  exact Cr A
theorem Ui (L:List Int) (h0:0 < L.length) (h12:L.length≤12):HFn Tryz.prog 104 [.sl 0 0 L.length,.int .i64 0,.int .i64 L.length] [.row 1 (L.map (V.int .i64))] [0] (fun r o=>r= .tup []∧∃els',IY L els'∧o=[.row 1 els']):=
  (Wz L h0 h12).mono fun r o ⟨h1,A,h2,h3⟩=>⟨h1,_,⟨A,h2,rfl⟩,h3⟩
set_option maxHeartbeats 8000000 in
theorem gY (L:List Int) (h0:0 < L.length) (h12:L.length≤12) (k:Int):HFn Tryz.prog 94 [.sl 0 0 L.length,.int .i64 0,.int .i64 L.length,.int .i64 k] [.row 1 (L.map (V.int .i64))] [0] (fun r o=>r= .tup []∧∃els',IY L els'∧o=[.row 1 els']):=by
  have hbl:Nat.blt 0 L.length=true:=by rw [Nat.blt_eq];exact h0
  have hin:=Ui L h0 h12
  refine HO (T:=Tryz.tt) Tryz.func94 rfl AR AB ?_ ?_ fun C vs hC hE=>?_
  . kernel_rfl
  . exact Nat.le_of_ble_eq_true (by kernel_rfl)
  conv=>whnf
  skip
  refine Ae (fun _:Nat=>⟨134,[(0,.sl 0 0 L.length),(1,.int .i64 0),(2,.int .i64 L.length),(3,.int .i64 k),(8,.bool true),(9,.bool true)],[some (.row 1 (L.map (V.int .i64))),some (.hid vs [.sl 0 0 L.length,.int .i64 0,.int .i64 L.length,.int .i64 k])]⟩)
    (fun _=>True) (fun _=>0) 0 hE ?_ ?_ trivial ?_
  . kernel_rfl
  . refine AU [0,1,2,3,8,9] ?_
    conv=>whnf
    try rfl
  intro _ _
  conv=>whnf
  repeat' (first|(refine AN (by first|assumption|omega) ?_;conv=>whnf)|(refine AS (by omega) ?_;conv=>whnf))
  refine JJ (Q:=IY L) hin hC Jx 0 rfl ⟨trivial,trivial,trivial⟩ trivial rfl (Cr L) IZ ?_
  intro els' hq
  conv=>whnf
  skip
  refine Aq (AP (BK hE ?_))
  conv=>whnf
  refine ⟨rfl,?_,rfl,els',hq,rfl⟩
  simp [Co,Qv,El,hbl,h0]
  exact ⟨0,by decide,by simp [hbl]⟩
def dX (n:Nat):Int:=if n=0 then 0 else if n < 2 then 1 else if n < 4 then 2 else if n < 8 then 3 else 4
set_option maxHeartbeats 8000000 in
theorem P0 (n:Nat) (hn:n≤12):Fn1 Tryz.prog 95 [.int .u64 n] (fun r=>r= .int .i64 (dX n)):=by
  have h64:Fn1 Tryz.prog 114 [.int .u64 n] (fun r=>r= .int .i64 (dX n)):=by
    obtain rfl|rfl|rfl|rfl|rfl|rfl|rfl|rfl|rfl|rfl|rfl|rfl|rfl:n=0∨n=1∨n=2∨n=3∨n=4∨n=5∨n=6∨n=7∨n=8∨n=9∨n=10∨n=11∨n=12:=by omega
    all_goals
      refine A4 (T:=Tryz.tt) Tryz.func114 rfl AR AB ?_ ?_ fun C hC hE=>?_
      . kernel_rfl
      . exact Nat.le_of_ble_eq_true (by kernel_rfl)
      conv=>whnf
      repeat' (first|(refine AM (by first|assumption|omega) ?_;conv=>whnf)|(refine Af (by first|assumption|omega) ?_;conv=>whnf)|(refine dE (by simp only [Mo,Mp];omega) ?_;conv=>whnf)|(refine AS (by decide) ?_;conv=>whnf)|(refine AH hE ?_;conv=>whnf))
      all_goals exact ⟨rfl,rfl⟩
  refine A4 (T:=Tryz.tt) Tryz.func95 rfl AR AB ?_ ?_ fun C hC hE=>?_
  . kernel_rfl
  . exact Nat.le_of_ble_eq_true (by kernel_rfl)
  conv=>whnf
  repeat' (first|(refine AC (h64) hC Qt ?_ ?_ ?_;kernel_rfl;kernel_rfl;conv=>whnf)|(refine AH hE ?_;conv=>whnf))
  exact ⟨rfl,rfl⟩
set_option maxHeartbeats 8000000 in
theorem dY (L:List Int) (h0:0 < L.length) (h12:L.length≤12):HFn Tryz.prog 78 [.sl 0 0 L.length] [.row 1 (L.map (V.int .i64))] [0] (fun r o=>r= .tup []∧∃els',IY L els'∧o=[.row 1 els']):=by
  have hbl:Nat.blt 0 L.length=true:=by rw [Nat.blt_eq];exact h0
  have hp:=gY L h0 h12 (dX L.length)
  have hbits:=P0 L.length h12
  refine HO (T:=Tryz.tt) Tryz.func78 rfl AR AB ?_ ?_ fun C vs hC hE=>?_
  . kernel_rfl
  . exact Nat.le_of_ble_eq_true (by kernel_rfl)
  conv=>whnf
  repeat' (first|(refine dE (by simp only [Mo,Mp];omega) ?_;conv=>whnf)|(refine AC (hbits) hC Md ?_ ?_ ?_;kernel_rfl;kernel_rfl;conv=>whnf)|(intro hlen;conv=>whnf))
  refine JJ (Q:=IY L) hp hC Mb 0 rfl ⟨trivial,trivial,trivial,trivial⟩ trivial rfl (Cr L) IZ ?_
  intro els' hq
  conv=>whnf
  skip
  refine Aq (AP (BK hE ?_))
  conv=>whnf
  refine ⟨rfl,?_,rfl,els',hq,rfl⟩
  simp [Co,Qv,El,hbl,h0]
theorem W4:Fn1 Tryz.prog 78 [.lst []] (fun r=>r= .tup []):=by
  have hbits:=P0 0 (by omega)
  have h1:Fn1 Tryz.prog 104 [.lst [],.int .i64 0,.int .i64 0] (fun r=>r= .tup []):=by
    refine A4 (T:=Tryz.tt) Tryz.func104 rfl AR AB ?_ ?_ fun C hC hE=>?_
    . kernel_rfl
    . exact Nat.le_of_ble_eq_true (by kernel_rfl)
    conv=>whnf
    repeat' (refine AS (by omega) ?_;conv=>whnf)
    refine Ae (fun _:Nat=>⟨49,[(0,.lst []),(1,.int .i64 0),(2,.int .i64 0),(6,.int .i64 1)],[]⟩) (fun _=>True) (fun _=>0) 0 hE ?_ ?_ trivial ?_
    . kernel_rfl
    . refine AU [0,1,2,6] ?_
      conv=>whnf
      try rfl
    intro _ _
    conv=>whnf
    repeat' (first|(refine AM (by first|assumption|omega) ?_;conv=>whnf)|(refine AH hE ?_;conv=>whnf))
    exact ⟨rfl,rfl⟩
  have h2:Fn1 Tryz.prog 94 [.lst [],.int .i64 0,.int .i64 0,.int .i64 0] (fun r=>r= .tup []):=by
    refine A4 (T:=Tryz.tt) Tryz.func94 rfl AR AB ?_ ?_ fun C hC hE=>?_
    . kernel_rfl
    . exact Nat.le_of_ble_eq_true (by kernel_rfl)
    conv=>whnf
    skip
    refine Ae (fun _:Nat=>⟨134,[(0,.lst []),(1,.int .i64 0),(2,.int .i64 0),(3,.int .i64 0),(8,.bool true),(9,.bool true)],[]⟩) (fun _=>True) (fun _=>0) 0 hE ?_ ?_ trivial ?_
    . kernel_rfl
    . refine AU [0,1,2,3,8,9] ?_
      conv=>whnf
      try rfl
    intro _ _
    conv=>whnf
    repeat' (first|(refine AN (by first|assumption|omega) ?_;conv=>whnf)|(refine AS (by omega) ?_;conv=>whnf)|(refine AC (h1) hC Jx ?_ ?_ ?_;kernel_rfl;kernel_rfl;conv=>whnf)|(refine AH hE ?_;conv=>whnf))
    exact ⟨rfl,rfl⟩
  refine A4 (T:=Tryz.tt) Tryz.func78 rfl AR AB ?_ ?_ fun C hC hE=>?_
  . kernel_rfl
  . exact Nat.le_of_ble_eq_true (by kernel_rfl)
  conv=>whnf
  repeat' (first|(refine dE (by simp only [Mo,Mp];omega) ?_;conv=>whnf)|(refine AC (hbits) hC Md ?_ ?_ ?_;kernel_rfl;kernel_rfl;conv=>whnf)|(refine AC (h2) hC Mb ?_ ?_ ?_;kernel_rfl;kernel_rfl;conv=>whnf)|(refine AH hE ?_;conv=>whnf)|(intro hlen;conv=>whnf))
  exact ⟨rfl,rfl⟩
set_option maxHeartbeats 4000000 in
theorem W5 (l:List Int) (h0:0 < l.length) (h12:l.length≤12):HFn Tryz.prog 55 [.fn 79 [.rp [.lst (l.map (V.int .i64))]]] [.row 1 []] [] (fun r o=>r= .sl 0 0 l.length∧∃els',IY l els'∧o=[.row 1 els']):=by
  have hs:=dY l h0 h12
  have hc:=Uh l (by omega)
  refine HO (T:=Tryz.tt) Tryz.func55 rfl AR AB ?_ ?_ fun C vs hC hE=>?_
  . kernel_rfl
  . exact Nat.le_of_ble_eq_true (by kernel_rfl)
  conv=>whnf
  repeat' (refine Hq hc hC MY 0 rfl (A6 ⟨⟨trivial,trivial⟩,trivial⟩) rfl (Cr l) ?_;conv=>whnf)
  refine JJ (Q:=IY l) hs hC MZ 0 rfl trivial trivial rfl (Cr l) IZ ?_
  intro els' hq
  conv=>whnf
  skip
  refine Aq (AP (BK hE ?_))
  conv=>whnf
  exact ⟨rfl,rfl,rfl,els',hq,rfl⟩
theorem P1:Fn1 Tryz.prog 77 [.fn 79 [.rp [.lst []]]] (fun r=>r= .lst []):=by
  intro w I vs hlen hv hI
  obtain ⟨v0,rfl⟩:∃v0,vs=[v0]:=by
    match vs,hlen with
    | [a],_=>exact ⟨a,rfl⟩
  obtain ⟨us,rfl,hul,hus⟩:=(Rep.pure (bl:=fun _=>none) _ _ (hv 0 v0 _ rfl rfl)).inv_fn
  obtain ⟨p,rfl⟩:∃p,us=[p]:=by
    match us,hul with
    | [a],_=>exact ⟨a,rfl⟩
  obtain ⟨b,off,u,hIb,rfl,hc,h1,hr⟩:=(hus 0 p _ rfl rfl).inv_rp
  have hu:=(Rep.pure (bl:=fun _=>none) _ _ (hr 0 _ rfl)).inv_lst
  have hbox:VBox w b off [] (u 0):=by
    refine ⟨hI b hIb,hc 0 (by simp),.inl ⟨rfl,?_⟩⟩
    rcases hu.is with ⟨_,a,cap,h3⟩|⟨b',o,cap,z,uu,hI',g1,g2,g3,g4,g5,g6,g7⟩
    . exact ⟨a,cap,h3⟩
    . exact ⟨_,cap,g3⟩
  refine (IX b off [] w (u 0) hbox (by simp)).mono ?_
  rintro e w' ⟨v,rfl,hrow,hbel⟩
  refine ⟨v,.lst [],I,rfl,rfl,?_,fun b hb=>⟨Nat.lt_of_lt_of_le (hI b hb) hbel.size,.inl hb⟩,Hr hbel⟩
  rcases id hrow.2 with ⟨rfl,h0⟩|⟨g,cap,cur,rfl,hg,hb,q1,q2,q3,q4⟩
  . exact .lnil _ _
  . exact .lnil _ _
theorem Le:Fn1 Tryz.prog 55 [.fn 79 [.rp [.lst []]]] (fun r=>r= .lst []):=by
  refine A4 (T:=Tryz.tt) Tryz.func55 rfl AR AB ?_ ?_ fun C hC hE=>?_
  . kernel_rfl
  . exact Nat.le_of_ble_eq_true (by kernel_rfl)
  conv=>whnf
  repeat' (first|(refine AC (P1) hC MY ?_ ?_ ?_;kernel_rfl;kernel_rfl;conv=>whnf)|(refine AC (W4) hC MZ ?_ ?_ ?_;kernel_rfl;kernel_rfl;conv=>whnf)|(refine AH hE ?_;conv=>whnf))
  exact ⟨rfl,rfl⟩
end Go.Proofs.YtkaiffheakalmaaGreatDoor
