/- Copied, stripped. No conditions. -/
import Derived.Test.YtkaiffheakalmaaGreatDoorU9TlZd
import Derived.Test.YtkaiffheakalmaaGreatDoorU9TlZa
import Derived.Test.YtkaiffheakalmaaGreatDoorU9Data
set_option linter.unusedSimpArgs false
set_option linter.unusedVariables false
set_option maxRecDepth 100000
namespace Go.Proofs.YtkaiffheakalmaaGreatDoor
open Go.RowKit
theorem FF {C:Ctx} {K:ES→Prop} (p c z':Nat) {z n:Nat} {l:List V} {u:List (Nat×V)} {h:List (Option Ob)} (ho:h[p]?=some (some (.row z l))) (hl:l[c]?=some .nils)
    (hk:UpE C K ⟨n,u,(Aj h (.row z' [])).set p (some (.row z (l.set c (.sl (AG h) 0 0))))⟩):UpE C K ⟨n,u,h⟩:=by
  refine ⟨BQ (fun a w hr=>?_) hk.out⟩
  obtain ⟨I,bl,hp0⟩:=hr.parts
  have hp:=hp0.adopt z'
  have hne:p≠AG h:=fun e=>Nd h _ (e▸ho)
  have ho':(Aj h (.row z' []))[p]?=some (some (.row z l)):=(BT h _ p hne).trans ho
  have hpl:p < (Aj h (.row z' [])).length:=(List.getElem?_eq_some_iff.1 ho').1
  refine RP.rel (I:=I) (bl:=Fo bl (AG h) ⟨none,0,z'⟩) ⟨hp.defers,hp.env,⟨fun id o hoo=>?_,fun id i hi=>?_,hp.heap.apart,hp.heap.own,hp.heap.imm,hp.heap.kept⟩⟩
  . have hoo:((Aj h (.row z' [])).set p (some (.row z (l.set c (.sl (AG h) 0 0)))))[id]?=some (some o):=hoo
    by_cases e:id=p
    . subst e
      rw [List.getElem?_set_self hpl] at hoo
      simp only [Option.some.injEq] at hoo
      subst hoo
      obtain ⟨bi,h1,h2,h3,h4⟩:=hp.heap.obj id _ ho'
      have hlt:c < l.length:=(List.getElem?_eq_some_iff.1 hl).1
      refine ⟨bi,h1,h2,fun i x hx=>?_,?_⟩
      . by_cases hic:i=c
        . subst hic
          rw [List.getElem?_set_self hlt] at hx
          simp only [Option.some.injEq] at hx
          subst hx
          exact h3 i .nils hl
        . rw [List.getElem?_set_ne (Ne.symm hic)] at hx
          exact h3 i x hx
      . cases hbl:bi.blk with
        | none=>
          simp only [hbl] at h4
          subst h4
          simp at hl
        | some b=>
          simp only [hbl] at h4 ⊢
          obtain ⟨cur,e,hg,hsz,hc⟩:=h4
          refine ⟨cur,e,hg,by simpa using hsz,fun i x j v hx hxc=>?_⟩
          by_cases hic:i=c
          . subst hic
            rw [List.getElem?_set_self hlt] at hx
            simp only [Option.some.injEq] at hx
            subst hx
            match j,hxc with
            | 0,hxc=>
              simp only [V.cells,List.getElem?_cons_zero,Option.some.injEq] at hxc
              subst hxc
              obtain ⟨y,hy,h1',hr'⟩:=hc i .nils 0 .nils hl rfl
              have:=hr'.inv_nils
              subst this
              exact ⟨_,hy,h1',.nsl _ _ _ (AX _ _ _)⟩
            | j+1,hxc=>simp [V.cells] at hxc
          . rw [List.getElem?_set_ne (Ne.symm hic)] at hx
            exact hc i x j v hx hxc
    . rw [List.getElem?_set_ne (Ne.symm e)] at hoo
      exact hp.heap.obj id o hoo
  . show ∃o,((Aj h (.row z' [])).set p (some (.row z (l.set c (.sl (AG h) 0 0)))))[id]?=some (some o)
    by_cases e:id=p
    . subst e;exact ⟨_,List.getElem?_set_self hpl⟩
    . rw [List.getElem?_set_ne (Ne.symm e)]
      exact hp.heap.live id i hi
def QJ (p:Pt):V:=.agg [.lst (p.first.map (V.int .i64)),.lst (p.last.map (V.int .i64)),.bool p.none]
theorem C0 (n:Nat):∀a b:List V,B9 n (a++b)=(B9 n a&&B9 n b)
  | [],b=>by simp [B9]
  | x::a,b=>by simp only [List.cons_append,B9,C0 n a b,Bool.and_assoc]
theorem XT {C:Ctx} {K:ES→Prop} {vs:List Value} (P:List V) (t:Int) (n:Nat) (T0 L R0 R1 R2 R3 y10 y11:List V) (x8:V) (hTn:BN T0) (hfL:∀id els,8≤id→An id els L=L)
    (n0:BN R0) (n1:BN R1) (n2:BN R2) (n3:BN R3) (ny10:BN y10) (ny11:BN y11) (n8:BN [x8]) {u:List (Nat×V)}
    (hk:UpE C K ⟨Tryz.f52.ntmps,FQ 13 [.int .i64 n] (FQ 12 [.int .i64 n] u),[some (.row 5 [.agg [.sl 1 0 (n+1),.sl 2 0 (n+1),.nils,.nils,.bool false]]),some (.row 1 (T0++[.int .i64 t])),some (.row 1 (L++[.nils])),some (.row 1 R0),some (.row 1 R1),some (.row 1 R2),some (.row 1 R3),some (.hid vs [.ptr 0 0 0,.agg [.int .i64 1,.int .i64 t,.lst P]]),some (.row 3 [x8]),some (.row 3 [.agg [.lst [.int .i64 n],.lst [.int .i64 n],.bool false]]),some (.row 1 y10),some (.row 1 y11),none,none]⟩):
    UpE C K ⟨Tryz.f52.ntmps,u,[some (.row 5 [.agg [.sl 1 0 (n+1),.sl 2 0 (n+1),.nils,.nils,.bool false]]),some (.row 1 (T0++[.int .i64 t])),some (.row 1 (L++[.nils])),some (.row 1 R0),some (.row 1 R1),some (.row 1 R2),some (.row 1 R3),some (.hid vs [.ptr 0 0 0,.agg [.int .i64 1,.int .i64 t,.lst P]]),some (.row 3 [x8]),some (.row 3 [.agg [.sl 12 0 1,.sl 13 0 1,.bool false]]),some (.row 1 y10),some (.row 1 y11),some (.row 1 [.int .i64 n]),some (.row 1 [.int .i64 n])]⟩:=by
  have nT:BN (T0++[.int .i64 t]):=(Fq _ _).2 ⟨hTn,trivial,trivial⟩
  refine AO 12 rfl ⟨trivial,trivial⟩ (AO 13 rfl ⟨trivial,trivial⟩ (Ax _ ?_ hk))
  conv=>whnf
  simp only [Pv,hfL _ _ (show 8≤12 by decide),hfL _ _ (show 8≤13 by decide),AZ _ _ hTn,AZ _ _ n0,AZ _ _ n1,AZ _ _ n2,AZ _ _ n3,AZ _ _ n8,AZ _ _ ny10,AZ _ _ ny11]
  rfl
theorem Od {C:Ctx} {vs:List Value} (hE:EOk Tryz.tt C) (P:List V) (t:Int) (o0 o1 o2 o3 o4 o5 o6:List V) (S':Ps) (n:Nat) (h4:n≤3) (T0 L R0 R1 R2 R3 y10 y11:List V) (x8:V) (hTn:BN T0) (hLl:L.length=n) (hkL:AK (3+n) L=L)
    (n0:BN R0) (n1:BN R1) (n2:BN R2) (n3:BN R3) (ny10:BN y10) (ny11:BN y11) (n8:BN [x8]) (w:B9 7 (T0++[.int .i64 t])=true) (wL:B9 7 L=true) (w0:B9 7 R0=true) (w1:B9 7 R1=true) (w2:B9 7 R2=true) (w3:B9 7 R3=true)
    (hfin:[.row 5 [.agg [.sl 1 0 (n+1),.sl 2 0 (n+1),.nils,.nils,.bool false]],.row 1 (T0++[.int .i64 t]),.row 1 (L++[.sl (3+n) 0 0]),.row 1 (if n=0 then [] else R0),.row 1 (if n=1 then [] else R1),.row 1 (if n=2 then [] else R2),.row 1 (if n=3 then [] else R3)]=Bj S')
    {u:List (Nat×V)} (hu:Al u 4= .ptr 9 0 0):
    HRetN Tryz.tt C Tryz.f52 [.ptr 0 0 0,.agg [.int .i64 1,.int .i64 t,.lst P]] [.row 5 o0,.row 1 o1,.row 1 o2,.row 1 o3,.row 1 o4,.row 1 o5,.row 1 o6] vs [0] (fun r o=>r=QJ ⟨[(n:Int)],[(n:Int)],false⟩∧o=Bj S') ⟨Tryz.f52.ntmps,u,[some (.row 5 [.agg [.sl 1 0 (n+1),.sl 2 0 (n+1),.nils,.nils,.bool false]]),some (.row 1 (T0++[.int .i64 t])),some (.row 1 (L++[.nils])),some (.row 1 R0),some (.row 1 R1),some (.row 1 R2),some (.row 1 R3),some (.hid vs [.ptr 0 0 0,.agg [.int .i64 1,.int .i64 t,.lst P]]),some (.row 3 [x8]),some (.row 3 [.agg [.lst [.int .i64 n],.lst [.int .i64 n],.bool false]]),some (.row 1 y10),some (.row 1 y11),none,none]⟩:=by
  have nT:BN (T0++[.int .i64 t]):=(Fq _ _).2 ⟨hTn,trivial,trivial⟩
  have hg:(L++[V.nils])[n]?=some V.nils:=by rw [List.getElem?_append_right (by omega),hLl,Nat.sub_self];rfl
  have hs:∀x:V,(L++[V.nils]).set n x=L++[x]:=fun x=>by rw [List.set_append_right _ _ (by omega),hLl,Nat.sub_self];rfl
  have hkn:AK (3+n) (L++[V.nils])=L++[V.nils]:=by rw [BD,hkL];rfl
  rcases (by omega:n=0∨n=1∨n=2∨n=3) with rfl|rfl|rfl|rfl
  . refine Aq (Bc 3 (Ax [some (.row 5 [.agg [.sl 1 0 (0+1),.sl 2 0 (0+1),.nils,.nils,.bool false]]),some (.row 1 (T0++[.int .i64 t])),some (.row 1 (L++[.nils])),none,some (.row 1 R1),some (.row 1 R2),some (.row 1 R3),some (.hid vs [.ptr 0 0 0,.agg [.int .i64 1,.int .i64 t,.lst P]]),some (.row 3 [x8]),some (.row 3 [.agg [.lst [.int .i64 (0:Nat)],.lst [.int .i64 (0:Nat)],.bool false]]),some (.row 1 y10),some (.row 1 y11),none,none] ?_ (FF 2 0 1 rfl hg (Ax [some (.row 5 [.agg [.sl 1 0 (0+1),.sl 2 0 (0+1),.nils,.nils,.bool false]]),some (.row 1 (T0++[.int .i64 t])),some (.row 1 (L++[.sl 3 0 0])),some (.row 1 []),some (.row 1 R1),some (.row 1 R2),some (.row 1 R3),some (.hid vs [.ptr 0 0 0,.agg [.int .i64 1,.int .i64 t,.lst P]]),some (.row 3 [x8]),some (.row 3 [.agg [.lst [.int .i64 (0:Nat)],.lst [.int .i64 (0:Nat)],.bool false]]),some (.row 1 y10),some (.row 1 y11),none,none] ?_ (Gh [4] (σ':=⟨Tryz.f52.ntmps,[(4,.ptr 9 0 0)],[some (.row 5 [.agg [.sl 1 0 (0+1),.sl 2 0 (0+1),.nils,.nils,.bool false]]),some (.row 1 (T0++[.int .i64 t])),some (.row 1 (L++[.sl 3 0 0])),some (.row 1 []),some (.row 1 R1),some (.row 1 R2),some (.row 1 R3),some (.hid vs [.ptr 0 0 0,.agg [.int .i64 1,.int .i64 t,.lst P]]),some (.row 3 [x8]),some (.row 3 [.agg [.lst [.int .i64 (0:Nat)],.lst [.int .i64 (0:Nat)],.bool false]]),some (.row 1 y10),some (.row 1 y11),none,none]⟩) ?_ (A2 hE ?_))))))
    . conv=>whnf
      simp only [AA _ nT,AA _ n0,AA _ n1,AA _ n2,AA _ n3,AA _ n8,AA _ ny10,AA _ ny11]
      rw [show AK 3 (L++[V.nils])=L++[V.nils] from hkn]
      rfl
    . conv=>whnf
      rw [hs]
      rfl
    . show (⟨_,A1 [4] (u.map fun p=>(p.1,p.2.kill 3)),_⟩:ES)=_
      have:Al (u.map fun p=>(p.1,p.2.kill 3)) 4= .ptr 9 0 0:=by rw [B2,hu];rfl
      simp only [A1,List.map_cons,List.map_nil,this]
    . conv=>whnf
      refine ⟨rfl,rfl,rfl,?_,rfl,hfin⟩
      have wl:B9 7 (L++[V.sl 3 0 0])=true:=by rw [C0,wL];rfl
      show CM 7 _=true
      simp only [CM,Ob.low,w,wl,w0,w1,w2,w3,Bool.true_and,Bool.and_true]
      rfl
  . refine Aq (Bc 4 (Ax [some (.row 5 [.agg [.sl 1 0 (1+1),.sl 2 0 (1+1),.nils,.nils,.bool false]]),some (.row 1 (T0++[.int .i64 t])),some (.row 1 (L++[.nils])),some (.row 1 R0),none,some (.row 1 R2),some (.row 1 R3),some (.hid vs [.ptr 0 0 0,.agg [.int .i64 1,.int .i64 t,.lst P]]),some (.row 3 [x8]),some (.row 3 [.agg [.lst [.int .i64 (1:Nat)],.lst [.int .i64 (1:Nat)],.bool false]]),some (.row 1 y10),some (.row 1 y11),none,none] ?_ (FF 2 1 1 rfl hg (Ax [some (.row 5 [.agg [.sl 1 0 (1+1),.sl 2 0 (1+1),.nils,.nils,.bool false]]),some (.row 1 (T0++[.int .i64 t])),some (.row 1 (L++[.sl 4 0 0])),some (.row 1 R0),some (.row 1 []),some (.row 1 R2),some (.row 1 R3),some (.hid vs [.ptr 0 0 0,.agg [.int .i64 1,.int .i64 t,.lst P]]),some (.row 3 [x8]),some (.row 3 [.agg [.lst [.int .i64 (1:Nat)],.lst [.int .i64 (1:Nat)],.bool false]]),some (.row 1 y10),some (.row 1 y11),none,none] ?_ (Gh [4] (σ':=⟨Tryz.f52.ntmps,[(4,.ptr 9 0 0)],[some (.row 5 [.agg [.sl 1 0 (1+1),.sl 2 0 (1+1),.nils,.nils,.bool false]]),some (.row 1 (T0++[.int .i64 t])),some (.row 1 (L++[.sl 4 0 0])),some (.row 1 R0),some (.row 1 []),some (.row 1 R2),some (.row 1 R3),some (.hid vs [.ptr 0 0 0,.agg [.int .i64 1,.int .i64 t,.lst P]]),some (.row 3 [x8]),some (.row 3 [.agg [.lst [.int .i64 (1:Nat)],.lst [.int .i64 (1:Nat)],.bool false]]),some (.row 1 y10),some (.row 1 y11),none,none]⟩) ?_ (A2 hE ?_))))))
    . conv=>whnf
      simp only [AA _ nT,AA _ n0,AA _ n1,AA _ n2,AA _ n3,AA _ n8,AA _ ny10,AA _ ny11]
      rw [show AK 4 (L++[V.nils])=L++[V.nils] from hkn]
      rfl
    . conv=>whnf
      rw [hs]
      rfl
    . show (⟨_,A1 [4] (u.map fun p=>(p.1,p.2.kill 4)),_⟩:ES)=_
      have:Al (u.map fun p=>(p.1,p.2.kill 4)) 4= .ptr 9 0 0:=by rw [B2,hu];rfl
      simp only [A1,List.map_cons,List.map_nil,this]
    . conv=>whnf
      refine ⟨rfl,rfl,rfl,?_,rfl,hfin⟩
      have wl:B9 7 (L++[V.sl 4 0 0])=true:=by rw [C0,wL];rfl
      show CM 7 _=true
      simp only [CM,Ob.low,w,wl,w0,w1,w2,w3,Bool.true_and,Bool.and_true]
      rfl
  . refine Aq (Bc 5 (Ax [some (.row 5 [.agg [.sl 1 0 (2+1),.sl 2 0 (2+1),.nils,.nils,.bool false]]),some (.row 1 (T0++[.int .i64 t])),some (.row 1 (L++[.nils])),some (.row 1 R0),some (.row 1 R1),none,some (.row 1 R3),some (.hid vs [.ptr 0 0 0,.agg [.int .i64 1,.int .i64 t,.lst P]]),some (.row 3 [x8]),some (.row 3 [.agg [.lst [.int .i64 (2:Nat)],.lst [.int .i64 (2:Nat)],.bool false]]),some (.row 1 y10),some (.row 1 y11),none,none] ?_ (FF 2 2 1 rfl hg (Ax [some (.row 5 [.agg [.sl 1 0 (2+1),.sl 2 0 (2+1),.nils,.nils,.bool false]]),some (.row 1 (T0++[.int .i64 t])),some (.row 1 (L++[.sl 5 0 0])),some (.row 1 R0),some (.row 1 R1),some (.row 1 []),some (.row 1 R3),some (.hid vs [.ptr 0 0 0,.agg [.int .i64 1,.int .i64 t,.lst P]]),some (.row 3 [x8]),some (.row 3 [.agg [.lst [.int .i64 (2:Nat)],.lst [.int .i64 (2:Nat)],.bool false]]),some (.row 1 y10),some (.row 1 y11),none,none] ?_ (Gh [4] (σ':=⟨Tryz.f52.ntmps,[(4,.ptr 9 0 0)],[some (.row 5 [.agg [.sl 1 0 (2+1),.sl 2 0 (2+1),.nils,.nils,.bool false]]),some (.row 1 (T0++[.int .i64 t])),some (.row 1 (L++[.sl 5 0 0])),some (.row 1 R0),some (.row 1 R1),some (.row 1 []),some (.row 1 R3),some (.hid vs [.ptr 0 0 0,.agg [.int .i64 1,.int .i64 t,.lst P]]),some (.row 3 [x8]),some (.row 3 [.agg [.lst [.int .i64 (2:Nat)],.lst [.int .i64 (2:Nat)],.bool false]]),some (.row 1 y10),some (.row 1 y11),none,none]⟩) ?_ (A2 hE ?_))))))
    . conv=>whnf
      simp only [AA _ nT,AA _ n0,AA _ n1,AA _ n2,AA _ n3,AA _ n8,AA _ ny10,AA _ ny11]
      rw [show AK 5 (L++[V.nils])=L++[V.nils] from hkn]
      rfl
    . conv=>whnf
      rw [hs]
      rfl
    . show (⟨_,A1 [4] (u.map fun p=>(p.1,p.2.kill 5)),_⟩:ES)=_
      have:Al (u.map fun p=>(p.1,p.2.kill 5)) 4= .ptr 9 0 0:=by rw [B2,hu];rfl
      simp only [A1,List.map_cons,List.map_nil,this]
    . conv=>whnf
      refine ⟨rfl,rfl,rfl,?_,rfl,hfin⟩
      have wl:B9 7 (L++[V.sl 5 0 0])=true:=by rw [C0,wL];rfl
      show CM 7 _=true
      simp only [CM,Ob.low,w,wl,w0,w1,w2,w3,Bool.true_and,Bool.and_true]
      rfl
  . refine Aq (Bc 6 (Ax [some (.row 5 [.agg [.sl 1 0 (3+1),.sl 2 0 (3+1),.nils,.nils,.bool false]]),some (.row 1 (T0++[.int .i64 t])),some (.row 1 (L++[.nils])),some (.row 1 R0),some (.row 1 R1),some (.row 1 R2),none,some (.hid vs [.ptr 0 0 0,.agg [.int .i64 1,.int .i64 t,.lst P]]),some (.row 3 [x8]),some (.row 3 [.agg [.lst [.int .i64 (3:Nat)],.lst [.int .i64 (3:Nat)],.bool false]]),some (.row 1 y10),some (.row 1 y11),none,none] ?_ (FF 2 3 1 rfl hg (Ax [some (.row 5 [.agg [.sl 1 0 (3+1),.sl 2 0 (3+1),.nils,.nils,.bool false]]),some (.row 1 (T0++[.int .i64 t])),some (.row 1 (L++[.sl 6 0 0])),some (.row 1 R0),some (.row 1 R1),some (.row 1 R2),some (.row 1 []),some (.hid vs [.ptr 0 0 0,.agg [.int .i64 1,.int .i64 t,.lst P]]),some (.row 3 [x8]),some (.row 3 [.agg [.lst [.int .i64 (3:Nat)],.lst [.int .i64 (3:Nat)],.bool false]]),some (.row 1 y10),some (.row 1 y11),none,none] ?_ (Gh [4] (σ':=⟨Tryz.f52.ntmps,[(4,.ptr 9 0 0)],[some (.row 5 [.agg [.sl 1 0 (3+1),.sl 2 0 (3+1),.nils,.nils,.bool false]]),some (.row 1 (T0++[.int .i64 t])),some (.row 1 (L++[.sl 6 0 0])),some (.row 1 R0),some (.row 1 R1),some (.row 1 R2),some (.row 1 []),some (.hid vs [.ptr 0 0 0,.agg [.int .i64 1,.int .i64 t,.lst P]]),some (.row 3 [x8]),some (.row 3 [.agg [.lst [.int .i64 (3:Nat)],.lst [.int .i64 (3:Nat)],.bool false]]),some (.row 1 y10),some (.row 1 y11),none,none]⟩) ?_ (A2 hE ?_))))))
    . conv=>whnf
      simp only [AA _ nT,AA _ n0,AA _ n1,AA _ n2,AA _ n3,AA _ n8,AA _ ny10,AA _ ny11]
      rw [show AK 6 (L++[V.nils])=L++[V.nils] from hkn]
      rfl
    . conv=>whnf
      rw [hs]
      rfl
    . show (⟨_,A1 [4] (u.map fun p=>(p.1,p.2.kill 6)),_⟩:ES)=_
      have:Al (u.map fun p=>(p.1,p.2.kill 6)) 4= .ptr 9 0 0:=by rw [B2,hu];rfl
      simp only [A1,List.map_cons,List.map_nil,this]
    . conv=>whnf
      refine ⟨rfl,rfl,rfl,?_,rfl,hfin⟩
      have wl:B9 7 (L++[V.sl 6 0 0])=true:=by rw [C0,wL];rfl
      show CM 7 _=true
      simp only [CM,Ob.low,w,wl,w0,w1,w2,w3,Bool.true_and,Bool.and_true]
      rfl
theorem XU {C:Ctx} {K:ES→Prop} {vs:List Value} (P:List V) (t:Int) (n:Nat) (T0 L R0 R1 R2 R3 y10 y12:List V) (x8:V) (hTn:BN T0) (hfL:∀id els,8≤id→An id els L=L)
    (n0:BN R0) (n1:BN R1) (n2:BN R2) (n3:BN R3) (ny10:BN y10) (ny12:BN y12) (n8:BN [x8]) {u:List (Nat×V)}
    (hk:UpE C K ⟨Tryz.f52.ntmps,FQ 13 [.int .i64 n] (FQ 11 [.int .i64 n] u),[some (.row 5 [.agg [.sl 1 0 (n+1),.sl 2 0 (n+1),.nils,.nils,.bool false]]),some (.row 1 (T0++[.int .i64 t])),some (.row 1 (L++[.nils])),some (.row 1 R0),some (.row 1 R1),some (.row 1 R2),some (.row 1 R3),some (.hid vs [.ptr 0 0 0,.agg [.int .i64 1,.int .i64 t,.lst P]]),some (.row 3 [x8]),some (.row 3 [.agg [.lst [.int .i64 n],.lst [.int .i64 n],.bool false]]),some (.row 1 y10),none,some (.row 1 y12),none]⟩):
    UpE C K ⟨Tryz.f52.ntmps,u,[some (.row 5 [.agg [.sl 1 0 (n+1),.sl 2 0 (n+1),.nils,.nils,.bool false]]),some (.row 1 (T0++[.int .i64 t])),some (.row 1 (L++[.nils])),some (.row 1 R0),some (.row 1 R1),some (.row 1 R2),some (.row 1 R3),some (.hid vs [.ptr 0 0 0,.agg [.int .i64 1,.int .i64 t,.lst P]]),some (.row 3 [x8]),some (.row 3 [.agg [.sl 11 0 1,.sl 13 0 1,.bool false]]),some (.row 1 y10),some (.row 1 [.int .i64 n]),some (.row 1 y12),some (.row 1 [.int .i64 n])]⟩:=by
  have nT:BN (T0++[.int .i64 t]):=(Fq _ _).2 ⟨hTn,trivial,trivial⟩
  refine AO 11 rfl ⟨trivial,trivial⟩ (AO 13 rfl ⟨trivial,trivial⟩ (Ax _ ?_ hk))
  conv=>whnf
  simp only [Pv,hfL _ _ (show 8≤11 by decide),hfL _ _ (show 8≤13 by decide),AZ _ _ hTn,AZ _ _ n0,AZ _ _ n1,AZ _ _ n2,AZ _ _ n3,AZ _ _ n8,AZ _ _ ny10,AZ _ _ ny12]
  rfl
theorem Oe {C:Ctx} {vs:List Value} (hE:EOk Tryz.tt C) (P:List V) (t:Int) (o0 o1 o2 o3 o4 o5 o6:List V) (S':Ps) (n:Nat) (h4:n≤3) (T0 L R0 R1 R2 R3 y10 y12:List V) (x8:V) (hTn:BN T0) (hLl:L.length=n) (hkL:AK (3+n) L=L)
    (n0:BN R0) (n1:BN R1) (n2:BN R2) (n3:BN R3) (ny10:BN y10) (ny12:BN y12) (n8:BN [x8]) (w:B9 7 (T0++[.int .i64 t])=true) (wL:B9 7 L=true) (w0:B9 7 R0=true) (w1:B9 7 R1=true) (w2:B9 7 R2=true) (w3:B9 7 R3=true)
    (hfin:[.row 5 [.agg [.sl 1 0 (n+1),.sl 2 0 (n+1),.nils,.nils,.bool false]],.row 1 (T0++[.int .i64 t]),.row 1 (L++[.sl (3+n) 0 0]),.row 1 (if n=0 then [] else R0),.row 1 (if n=1 then [] else R1),.row 1 (if n=2 then [] else R2),.row 1 (if n=3 then [] else R3)]=Bj S')
    {u:List (Nat×V)} (hu:Al u 4= .ptr 9 0 0):
    HRetN Tryz.tt C Tryz.f52 [.ptr 0 0 0,.agg [.int .i64 1,.int .i64 t,.lst P]] [.row 5 o0,.row 1 o1,.row 1 o2,.row 1 o3,.row 1 o4,.row 1 o5,.row 1 o6] vs [0] (fun r o=>r=QJ ⟨[(n:Int)],[(n:Int)],false⟩∧o=Bj S') ⟨Tryz.f52.ntmps,u,[some (.row 5 [.agg [.sl 1 0 (n+1),.sl 2 0 (n+1),.nils,.nils,.bool false]]),some (.row 1 (T0++[.int .i64 t])),some (.row 1 (L++[.nils])),some (.row 1 R0),some (.row 1 R1),some (.row 1 R2),some (.row 1 R3),some (.hid vs [.ptr 0 0 0,.agg [.int .i64 1,.int .i64 t,.lst P]]),some (.row 3 [x8]),some (.row 3 [.agg [.lst [.int .i64 n],.lst [.int .i64 n],.bool false]]),some (.row 1 y10),none,some (.row 1 y12),none]⟩:=by
  have nT:BN (T0++[.int .i64 t]):=(Fq _ _).2 ⟨hTn,trivial,trivial⟩
  have hg:(L++[V.nils])[n]?=some V.nils:=by rw [List.getElem?_append_right (by omega),hLl,Nat.sub_self];rfl
  have hs:∀x:V,(L++[V.nils]).set n x=L++[x]:=fun x=>by rw [List.set_append_right _ _ (by omega),hLl,Nat.sub_self];rfl
  have hkn:AK (3+n) (L++[V.nils])=L++[V.nils]:=by rw [BD,hkL];rfl
  rcases (by omega:n=0∨n=1∨n=2∨n=3) with rfl|rfl|rfl|rfl
  . refine Aq (Bc 3 (Ax [some (.row 5 [.agg [.sl 1 0 (0+1),.sl 2 0 (0+1),.nils,.nils,.bool false]]),some (.row 1 (T0++[.int .i64 t])),some (.row 1 (L++[.nils])),none,some (.row 1 R1),some (.row 1 R2),some (.row 1 R3),some (.hid vs [.ptr 0 0 0,.agg [.int .i64 1,.int .i64 t,.lst P]]),some (.row 3 [x8]),some (.row 3 [.agg [.lst [.int .i64 (0:Nat)],.lst [.int .i64 (0:Nat)],.bool false]]),some (.row 1 y10),none,some (.row 1 y12),none] ?_ (FF 2 0 1 rfl hg (Ax [some (.row 5 [.agg [.sl 1 0 (0+1),.sl 2 0 (0+1),.nils,.nils,.bool false]]),some (.row 1 (T0++[.int .i64 t])),some (.row 1 (L++[.sl 3 0 0])),some (.row 1 []),some (.row 1 R1),some (.row 1 R2),some (.row 1 R3),some (.hid vs [.ptr 0 0 0,.agg [.int .i64 1,.int .i64 t,.lst P]]),some (.row 3 [x8]),some (.row 3 [.agg [.lst [.int .i64 (0:Nat)],.lst [.int .i64 (0:Nat)],.bool false]]),some (.row 1 y10),none,some (.row 1 y12),none] ?_ (Gh [4] (σ':=⟨Tryz.f52.ntmps,[(4,.ptr 9 0 0)],[some (.row 5 [.agg [.sl 1 0 (0+1),.sl 2 0 (0+1),.nils,.nils,.bool false]]),some (.row 1 (T0++[.int .i64 t])),some (.row 1 (L++[.sl 3 0 0])),some (.row 1 []),some (.row 1 R1),some (.row 1 R2),some (.row 1 R3),some (.hid vs [.ptr 0 0 0,.agg [.int .i64 1,.int .i64 t,.lst P]]),some (.row 3 [x8]),some (.row 3 [.agg [.lst [.int .i64 (0:Nat)],.lst [.int .i64 (0:Nat)],.bool false]]),some (.row 1 y10),none,some (.row 1 y12),none]⟩) ?_ (A2 hE ?_))))))
    . conv=>whnf
      simp only [AA _ nT,AA _ n0,AA _ n1,AA _ n2,AA _ n3,AA _ n8,AA _ ny10,AA _ ny12]
      rw [show AK 3 (L++[V.nils])=L++[V.nils] from hkn]
      rfl
    . conv=>whnf
      rw [hs]
      rfl
    . show (⟨_,A1 [4] (u.map fun p=>(p.1,p.2.kill 3)),_⟩:ES)=_
      have:Al (u.map fun p=>(p.1,p.2.kill 3)) 4= .ptr 9 0 0:=by rw [B2,hu];rfl
      simp only [A1,List.map_cons,List.map_nil,this]
    . conv=>whnf
      refine ⟨rfl,rfl,rfl,?_,rfl,hfin⟩
      have wl:B9 7 (L++[V.sl 3 0 0])=true:=by rw [C0,wL];rfl
      show CM 7 _=true
      simp only [CM,Ob.low,w,wl,w0,w1,w2,w3,Bool.true_and,Bool.and_true]
      rfl
  . refine Aq (Bc 4 (Ax [some (.row 5 [.agg [.sl 1 0 (1+1),.sl 2 0 (1+1),.nils,.nils,.bool false]]),some (.row 1 (T0++[.int .i64 t])),some (.row 1 (L++[.nils])),some (.row 1 R0),none,some (.row 1 R2),some (.row 1 R3),some (.hid vs [.ptr 0 0 0,.agg [.int .i64 1,.int .i64 t,.lst P]]),some (.row 3 [x8]),some (.row 3 [.agg [.lst [.int .i64 (1:Nat)],.lst [.int .i64 (1:Nat)],.bool false]]),some (.row 1 y10),none,some (.row 1 y12),none] ?_ (FF 2 1 1 rfl hg (Ax [some (.row 5 [.agg [.sl 1 0 (1+1),.sl 2 0 (1+1),.nils,.nils,.bool false]]),some (.row 1 (T0++[.int .i64 t])),some (.row 1 (L++[.sl 4 0 0])),some (.row 1 R0),some (.row 1 []),some (.row 1 R2),some (.row 1 R3),some (.hid vs [.ptr 0 0 0,.agg [.int .i64 1,.int .i64 t,.lst P]]),some (.row 3 [x8]),some (.row 3 [.agg [.lst [.int .i64 (1:Nat)],.lst [.int .i64 (1:Nat)],.bool false]]),some (.row 1 y10),none,some (.row 1 y12),none] ?_ (Gh [4] (σ':=⟨Tryz.f52.ntmps,[(4,.ptr 9 0 0)],[some (.row 5 [.agg [.sl 1 0 (1+1),.sl 2 0 (1+1),.nils,.nils,.bool false]]),some (.row 1 (T0++[.int .i64 t])),some (.row 1 (L++[.sl 4 0 0])),some (.row 1 R0),some (.row 1 []),some (.row 1 R2),some (.row 1 R3),some (.hid vs [.ptr 0 0 0,.agg [.int .i64 1,.int .i64 t,.lst P]]),some (.row 3 [x8]),some (.row 3 [.agg [.lst [.int .i64 (1:Nat)],.lst [.int .i64 (1:Nat)],.bool false]]),some (.row 1 y10),none,some (.row 1 y12),none]⟩) ?_ (A2 hE ?_))))))
    . conv=>whnf
      simp only [AA _ nT,AA _ n0,AA _ n1,AA _ n2,AA _ n3,AA _ n8,AA _ ny10,AA _ ny12]
      rw [show AK 4 (L++[V.nils])=L++[V.nils] from hkn]
      rfl
    . conv=>whnf
      rw [hs]
      rfl
    . show (⟨_,A1 [4] (u.map fun p=>(p.1,p.2.kill 4)),_⟩:ES)=_
      have:Al (u.map fun p=>(p.1,p.2.kill 4)) 4= .ptr 9 0 0:=by rw [B2,hu];rfl
      simp only [A1,List.map_cons,List.map_nil,this]
    . conv=>whnf
      refine ⟨rfl,rfl,rfl,?_,rfl,hfin⟩
      have wl:B9 7 (L++[V.sl 4 0 0])=true:=by rw [C0,wL];rfl
      show CM 7 _=true
      simp only [CM,Ob.low,w,wl,w0,w1,w2,w3,Bool.true_and,Bool.and_true]
      rfl
  . refine Aq (Bc 5 (Ax [some (.row 5 [.agg [.sl 1 0 (2+1),.sl 2 0 (2+1),.nils,.nils,.bool false]]),some (.row 1 (T0++[.int .i64 t])),some (.row 1 (L++[.nils])),some (.row 1 R0),some (.row 1 R1),none,some (.row 1 R3),some (.hid vs [.ptr 0 0 0,.agg [.int .i64 1,.int .i64 t,.lst P]]),some (.row 3 [x8]),some (.row 3 [.agg [.lst [.int .i64 (2:Nat)],.lst [.int .i64 (2:Nat)],.bool false]]),some (.row 1 y10),none,some (.row 1 y12),none] ?_ (FF 2 2 1 rfl hg (Ax [some (.row 5 [.agg [.sl 1 0 (2+1),.sl 2 0 (2+1),.nils,.nils,.bool false]]),some (.row 1 (T0++[.int .i64 t])),some (.row 1 (L++[.sl 5 0 0])),some (.row 1 R0),some (.row 1 R1),some (.row 1 []),some (.row 1 R3),some (.hid vs [.ptr 0 0 0,.agg [.int .i64 1,.int .i64 t,.lst P]]),some (.row 3 [x8]),some (.row 3 [.agg [.lst [.int .i64 (2:Nat)],.lst [.int .i64 (2:Nat)],.bool false]]),some (.row 1 y10),none,some (.row 1 y12),none] ?_ (Gh [4] (σ':=⟨Tryz.f52.ntmps,[(4,.ptr 9 0 0)],[some (.row 5 [.agg [.sl 1 0 (2+1),.sl 2 0 (2+1),.nils,.nils,.bool false]]),some (.row 1 (T0++[.int .i64 t])),some (.row 1 (L++[.sl 5 0 0])),some (.row 1 R0),some (.row 1 R1),some (.row 1 []),some (.row 1 R3),some (.hid vs [.ptr 0 0 0,.agg [.int .i64 1,.int .i64 t,.lst P]]),some (.row 3 [x8]),some (.row 3 [.agg [.lst [.int .i64 (2:Nat)],.lst [.int .i64 (2:Nat)],.bool false]]),some (.row 1 y10),none,some (.row 1 y12),none]⟩) ?_ (A2 hE ?_))))))
    . conv=>whnf
      simp only [AA _ nT,AA _ n0,AA _ n1,AA _ n2,AA _ n3,AA _ n8,AA _ ny10,AA _ ny12]
      rw [show AK 5 (L++[V.nils])=L++[V.nils] from hkn]
      rfl
    . conv=>whnf
      rw [hs]
      rfl
    . show (⟨_,A1 [4] (u.map fun p=>(p.1,p.2.kill 5)),_⟩:ES)=_
      have:Al (u.map fun p=>(p.1,p.2.kill 5)) 4= .ptr 9 0 0:=by rw [B2,hu];rfl
      simp only [A1,List.map_cons,List.map_nil,this]
    . conv=>whnf
      refine ⟨rfl,rfl,rfl,?_,rfl,hfin⟩
      have wl:B9 7 (L++[V.sl 5 0 0])=true:=by rw [C0,wL];rfl
      show CM 7 _=true
      simp only [CM,Ob.low,w,wl,w0,w1,w2,w3,Bool.true_and,Bool.and_true]
      rfl
  . refine Aq (Bc 6 (Ax [some (.row 5 [.agg [.sl 1 0 (3+1),.sl 2 0 (3+1),.nils,.nils,.bool false]]),some (.row 1 (T0++[.int .i64 t])),some (.row 1 (L++[.nils])),some (.row 1 R0),some (.row 1 R1),some (.row 1 R2),none,some (.hid vs [.ptr 0 0 0,.agg [.int .i64 1,.int .i64 t,.lst P]]),some (.row 3 [x8]),some (.row 3 [.agg [.lst [.int .i64 (3:Nat)],.lst [.int .i64 (3:Nat)],.bool false]]),some (.row 1 y10),none,some (.row 1 y12),none] ?_ (FF 2 3 1 rfl hg (Ax [some (.row 5 [.agg [.sl 1 0 (3+1),.sl 2 0 (3+1),.nils,.nils,.bool false]]),some (.row 1 (T0++[.int .i64 t])),some (.row 1 (L++[.sl 6 0 0])),some (.row 1 R0),some (.row 1 R1),some (.row 1 R2),some (.row 1 []),some (.hid vs [.ptr 0 0 0,.agg [.int .i64 1,.int .i64 t,.lst P]]),some (.row 3 [x8]),some (.row 3 [.agg [.lst [.int .i64 (3:Nat)],.lst [.int .i64 (3:Nat)],.bool false]]),some (.row 1 y10),none,some (.row 1 y12),none] ?_ (Gh [4] (σ':=⟨Tryz.f52.ntmps,[(4,.ptr 9 0 0)],[some (.row 5 [.agg [.sl 1 0 (3+1),.sl 2 0 (3+1),.nils,.nils,.bool false]]),some (.row 1 (T0++[.int .i64 t])),some (.row 1 (L++[.sl 6 0 0])),some (.row 1 R0),some (.row 1 R1),some (.row 1 R2),some (.row 1 []),some (.hid vs [.ptr 0 0 0,.agg [.int .i64 1,.int .i64 t,.lst P]]),some (.row 3 [x8]),some (.row 3 [.agg [.lst [.int .i64 (3:Nat)],.lst [.int .i64 (3:Nat)],.bool false]]),some (.row 1 y10),none,some (.row 1 y12),none]⟩) ?_ (A2 hE ?_))))))
    . conv=>whnf
      simp only [AA _ nT,AA _ n0,AA _ n1,AA _ n2,AA _ n3,AA _ n8,AA _ ny10,AA _ ny12]
      rw [show AK 6 (L++[V.nils])=L++[V.nils] from hkn]
      rfl
    . conv=>whnf
      rw [hs]
      rfl
    . show (⟨_,A1 [4] (u.map fun p=>(p.1,p.2.kill 6)),_⟩:ES)=_
      have:Al (u.map fun p=>(p.1,p.2.kill 6)) 4= .ptr 9 0 0:=by rw [B2,hu];rfl
      simp only [A1,List.map_cons,List.map_nil,this]
    . conv=>whnf
      refine ⟨rfl,rfl,rfl,?_,rfl,hfin⟩
      have wl:B9 7 (L++[V.sl 6 0 0])=true:=by rw [C0,wL];rfl
      show CM 7 _=true
      simp only [CM,Ob.low,w,wl,w0,w1,w2,w3,Bool.true_and,Bool.and_true]
      rfl
theorem Ik {F:List (List Int)} (hF:F.length≤4) {id:Nat} (h:8≤id) (els:List V):An id els (CC F)=CC F:=by
  unfold CC
  have:∀l:List Nat,(∀j∈l,j < 4)→An id els (l.map fun j=>V.sl (3+j) 0 (AF F j).length)=l.map fun j=>V.sl (3+j) 0 (AF F j).length:=by
    intro l
    induction l with
    | nil=>intro _;rfl
    | cons j l ih=>
      intro hj
      have h1:=hj j (by simp)
      simp only [List.map_cons,An]
      rw [ih fun k hk=>hj k (by simp [hk]),Er els (by omega)]
  exact this _ fun j hj=>by have:=List.mem_range.1 hj;omega
theorem Nl (F:List (List Int)) {k:Nat} (h:k < 3):AK k (CC F)=CC F:=by
  unfold CC
  rw [FX]
  refine List.map_congr_left fun j _=>?_
  simp only [V.kill]
  rw [if_neg (by omega)]
theorem Tp {F:List (List Int)} (hF:F.length≤4):B9 7 (CC F)=true:=by
  unfold CC
  have:∀l:List Nat,(∀j∈l,j < 4)→B9 7 (l.map fun j=>V.sl (3+j) 0 (AF F j).length)=true:=by
    intro l
    induction l with
    | nil=>intro _;rfl
    | cons j l ih=>
      intro hj
      have h1:=hj j (by simp)
      simp only [List.map_cons,B9,V.low]
      rw [ih fun k hk=>hj k (by simp [hk]),Bool.and_true]
      exact Nat.ble_eq_true_of_le (by omega)
  exact this _ fun j hj=>by have:=List.mem_range.1 hj;omega
theorem Eu:∀l:List Int,B9 7 (l.map (V.int .i64))=true
  | []=>rfl
  | x::l=>by simp only [List.map_cons,B9,V.low,Eu l,Bool.and_true]
theorem JT (F:List (List Int)) (j:Nat):AF (F++[[]]) j=if F.length=j then [] else AF F j:=by
  unfold AF
  rw [List.getD_eq_getElem?_getD,List.getD_eq_getElem?_getD]
  split
  . rename_i e
    subst e
    simp
  . rename_i e
    by_cases h:j < F.length
    . rw [List.getElem?_append_left h]
    . rw [List.getElem?_eq_none (by simp;omega),List.getElem?_eq_none (by omega)]
theorem XV (F:List (List Int)):CC (F++[[]])=CC F++[.sl (3+F.length) 0 0]:=by
  unfold CC
  rw [List.length_append,List.length_singleton,List.range_succ,List.map_append]
  congr 1
  . refine List.map_congr_left fun j hj=>?_
    have:=List.mem_range.1 hj
    rw [JT,if_neg (by omega)]
  . simp [JT]
set_option maxHeartbeats 16000000 in
theorem Uz (t:Int) (ps:List Ex) (S:Ps) (hS:OkS S) (h4:S.T.length+1≤4):
    HFn Tryz.prog 52 [.ptr 0 0 0,.agg [.int .i64 1,.int .i64 t,.lst (ps.map Ai)]] (Bj S) [0] (fun r o=>r=QJ ⟨[(S.T.length:Int)],[(S.T.length:Int)],false⟩∧o=Bj ⟨S.T++[t],S.F++[[]]⟩):=by
  have hl:=hS.len
  have hTm:(S.T.map (V.int .i64)).length=S.T.length:=by simp
  have hLl:=OW S.F
  have hkL:=CN (F:=S.F) (n:=3+S.F.length) (by omega)
  have hkL':∀id,8≤id→AK id (CC S.F)=CC S.F:=fun id h=>CN (by omega)
  have hk1:=Nl S.F (k:=1) (by decide)
  have hk2:=Nl S.F (k:=2) (by decide)
  have hfL:∀id els,8≤id→An id els (CC S.F)=CC S.F:=fun id els h=>Ik (by omega) h els
  have hTn:=AE S.T
  have n0:=AE (AF S.F 0)
  have n1:=AE (AF S.F 1)
  have n2:=AE (AF S.F 2)
  have n3:=AE (AF S.F 3)
  have w:B9 7 (S.T.map (V.int .i64)++[.int .i64 t])=true:=by rw [C0,Eu];rfl
  have wL:=Tp (F:=S.F) (by omega)
  have w0:=Eu (AF S.F 0)
  have w1:=Eu (AF S.F 1)
  have w2:=Eu (AF S.F 2)
  have w3:=Eu (AF S.F 3)
  have hTt:List.take S.T.length (List.drop 0 (S.T.map (V.int .i64)))=S.T.map (V.int .i64):=by rw [List.drop_zero,List.take_of_length_le (by simp)]
  have hLt:List.take S.F.length (List.drop 0 (CC S.F))=CC S.F:=by rw [List.drop_zero,List.take_of_length_le (by omega)]
  have hfin:[Ob.row 5 [.agg [.sl 1 0 (S.T.length+1),.sl 2 0 (S.T.length+1),.nils,.nils,.bool false]],.row 1 (S.T.map (V.int .i64)++[.int .i64 t]),.row 1 (CC S.F++[.sl (3+S.T.length) 0 0]),.row 1 (if S.T.length=0 then [] else (AF S.F 0).map (V.int .i64)),.row 1 (if S.T.length=1 then [] else (AF S.F 1).map (V.int .i64)),.row 1 (if S.T.length=2 then [] else (AF S.F 2).map (V.int .i64)),.row 1 (if S.T.length=3 then [] else (AF S.F 3).map (V.int .i64))]=Bj ⟨S.T++[t],S.F++[[]]⟩:=by
    unfold Bj Qw fo
    simp only [XV,JT,hl,List.length_append,List.length_singleton,List.map_append,List.map_cons,List.map_nil]
    congr<;>(split<;>rfl)
  refine HO (T:=Tryz.tt) Tryz.func52 rfl AR AB ?_ ?_ fun C vs hC hE=>?_
  . kernel_rfl
  . exact Nat.le_of_ble_eq_true (by kernel_rfl)
  have hob:Bj S=[.row 5 [.agg [.sl 1 0 S.T.length,.sl 2 0 S.F.length,.nils,.nils,.bool false]],.row 1 (S.T.map (V.int .i64)),.row 1 (CC S.F),.row 1 ((AF S.F 0).map (V.int .i64)),.row 1 ((AF S.F 1).map (V.int .i64)),.row 1 ((AF S.F 2).map (V.int .i64)),.row 1 ((AF S.F 3).map (V.int .i64))]:=rfl
  rw [hob]
  clear hob
  generalize (⟨S.T++[t],S.F++[[]]⟩:Ps)=S' at*
  rw [hl] at hLl hkL hLt ⊢
  generalize CC S.F=L at*
  generalize S.T.map (V.int .i64)=T0 at*
  generalize (AF S.F 0).map (V.int .i64)=R0 at*
  generalize (AF S.F 1).map (V.int .i64)=R1 at*
  generalize (AF S.F 2).map (V.int .i64)=R2 at*
  generalize (AF S.F 3).map (V.int .i64)=R3 at*
  generalize S.T.length=n at*
  conv=>whnf
  repeat' (first|(refine AN (by first|assumption|omega) ?_;conv=>whnf)|(intro hlen;conv=>whnf))
  refine Dg hE ⟨2,[(0,none),(1,none),(2,none),(3,none),(4,none),(5,none),(6,none),(7,none),(10,none),(11,none),(12,none),(13,none),(8,some 0),(14,some 1)],some 9,[10,11,12,13,0,1,14],[[],[0],[1],[0,1],[13],[13,0],[13,1],[13,0,1],[12,13],[12,13,0],[12,13,1],[12,13,0,1],[11,12,13],[11,12,13,0],[11,12,13,1],[11,12,13,0,1],[10,11,12,13],[10,11,12,13,0],[10,11,12,13,1],[10,11,12,13,0,1],[14],[0,14],[1,14],[0,1,14],[13,14],[13,0,14],[13,1,14],[13,0,1,14],[12,13,14],[12,13,0,14],[12,13,1,14],[12,13,0,1,14],[11,12,13,14],[11,12,13,0,14],[11,12,13,1,14],[11,12,13,0,1,14],[10,11,12,13,14],[10,11,12,13,0,14],[10,11,12,13,1,14],[10,11,12,13,0,1,14]],[]⟩ [⟨1,[],some 15,[0,1],[[],[0],[1],[0,1]],[(14,0)]⟩,⟨0,[(16,none),(17,none)],some 18,[1],[[],[1]],[]⟩,⟨0,[(19,none),(20,none)],some 21,[],[[]],[]⟩] [[],[0],[1],[0,1],[14],[0,14],[1,14],[0,1,14]] [10,11,12,13] 9 ?_ ?_
  . decide +kernel
  conv=>whnf
  repeat' (first|(refine JD ?_ ?_<;>conv=>whnf)|(refine Af (Nat.le_refl 1) ?_;conv=>whnf)|(refine EqL.mk rfl rfl)|(refine Af ⟨?_,?_,?_⟩ ?_;(first|omega|(simp only [AT]<;>omega));(show _+1≤9223372036854775807;first|omega|(simp only [AT]<;>omega));(show (_+1)*_≤140737488355328;first|omega|(simp only [AT]<;>omega));conv=>whnf)|(refine Cy ?_;conv=>whnf))
  all_goals first
  | (refine Aq (B8 [4] (Ax [some (.row 5 [.agg [.sl 1 0 (n+1),.sl 2 0 (n+1),.nils,.nils,.bool false]]),some (.row 1 (T0++[.int .i64 t])),some (.row 1 (L++[.nils])),some (.row 1 R0),some (.row 1 R1),some (.row 1 R2),some (.row 1 R3),some (.hid vs [.ptr 0 0 0,.agg [.int .i64 1,.int .i64 t,.lst (ps.map Ai)]]),some (.row 3 [.agg [.int .i64 1,.int .i64 t,.lst (ps.map Ai)]]),some (.row 3 [.agg [.sl 12 0 1,.sl 13 0 1,.bool false]]),some (.row 1 [.int .i64 t]),some (.row 1 [.nils]),some (.row 1 [.int .i64 (n:Int)]),some (.row 1 [.int .i64 (n:Int)])] ?_ (XT _ t n T0 L R0 R1 R2 R3 [.int .i64 t] [.nils] (.agg [.int .i64 1,.int .i64 t,.lst (ps.map Ai)]) hTn hfL n0 n1 n2 n3 ⟨trivial,trivial⟩ ⟨trivial,trivial⟩ ⟨⟨trivial,trivial,trivial,trivial⟩,trivial⟩ (AP (Od hE _ t _ _ _ _ _ _ _ _ n (by omega) T0 L R0 R1 R2 R3 [.int .i64 t] [.nils] (.agg [.int .i64 1,.int .i64 t,.lst (ps.map Ai)]) hTn hLl hkL n0 n1 n2 n3 ⟨trivial,trivial⟩ ⟨trivial,trivial⟩ ⟨⟨trivial,trivial,trivial,trivial⟩,trivial⟩ w wL w0 w1 w2 w3 hfin (by rw [Bb,Bb];rfl))))))
     (conv=>whnf)
     simp only [BD,hk1,hk2,hkL',AA _ hTn,AA _ n0,AA _ n1,AA _ n2,AA _ n3,hTt,hLt]
     rfl)
  | (refine Aq (B8 [4] (Ax [some (.row 5 [.agg [.sl 1 0 (n+1),.sl 2 0 (n+1),.nils,.nils,.bool false]]),some (.row 1 (T0++[.int .i64 t])),some (.row 1 (L++[.nils])),some (.row 1 R0),some (.row 1 R1),some (.row 1 R2),some (.row 1 R3),some (.hid vs [.ptr 0 0 0,.agg [.int .i64 1,.int .i64 t,.lst (ps.map Ai)]]),some (.row 3 [.agg [.int .i64 1,.int .i64 t,.lst (ps.map Ai)]]),some (.row 3 [.agg [.sl 11 0 1,.sl 13 0 1,.bool false]]),some (.row 1 [.int .i64 t]),some (.row 1 [.int .i64 (n:Int)]),some (.row 1 [.nils]),some (.row 1 [.int .i64 (n:Int)])] ?_ (XU _ t n T0 L R0 R1 R2 R3 [.int .i64 t] [.nils] (.agg [.int .i64 1,.int .i64 t,.lst (ps.map Ai)]) hTn hfL n0 n1 n2 n3 ⟨trivial,trivial⟩ ⟨trivial,trivial⟩ ⟨⟨trivial,trivial,trivial,trivial⟩,trivial⟩ (AP (Oe hE _ t _ _ _ _ _ _ _ _ n (by omega) T0 L R0 R1 R2 R3 [.int .i64 t] [.nils] (.agg [.int .i64 1,.int .i64 t,.lst (ps.map Ai)]) hTn hLl hkL n0 n1 n2 n3 ⟨trivial,trivial⟩ ⟨trivial,trivial⟩ ⟨⟨trivial,trivial,trivial,trivial⟩,trivial⟩ w wL w0 w1 w2 w3 hfin (by rw [Bb,Bb];rfl))))))
     (conv=>whnf)
     simp only [BD,hk1,hk2,hkL',AA _ hTn,AA _ n0,AA _ n1,AA _ n2,AA _ n3,hTt,hLt]
     rfl)
end Go.Proofs.YtkaiffheakalmaaGreatDoor
namespace Go.Proofs.YtkaiffheakalmaaGreatDoor
open Go.RowKit
mutual
/-- A value in which no frozen memory is named. -/
def V.noI:V→Bool
  | .any=>true
  | .bool _=>true
  | .int _ _=>true
  | .str _=>true
  | .nils=>true
  | .sl _ _ _=>true
  | .ptr _ _ _=>true
  | .it _=>true
  | .agg l=>J9 l
  | .tup l=>J9 l
  | _=>false
def J9:List V→Bool
  | []=>true
  | x::l=>x.noI&&J9 l
end
theorem Ev:∀(l:List V) (i:Nat) (c:V),J9 l=true→l[i]?=some c→c.noI=true
  | [],i,c,_,hc=>by simp at hc
  | x::l,0,c,h,hc=>by
    simp only [J9,Bool.and_eq_true] at h
    simp at hc;subst hc;exact h.1
  | x::l,i+1,c,h,hc=>by
    simp only [J9,Bool.and_eq_true] at h
    exact Ev l i c h.2 (by simpa using hc)
theorem Pr.noI {w:World} {I J:Nat→Prop} {v:Value} {x:V} (h:Pr w I v x):x.noI=true→Pr w J v x:=by
  induction h with
  | any v=>exact fun _=>.any v
  | bool b=>exact fun _=>.bool b
  | int k n=>exact fun _=>.int k n
  | str s h=>exact fun _=>.str s h
  | nils=>exact fun _=>.nils
  | agg vs l h1 h2 h3 ih=>exact fun e=>.agg vs l h1 h2 fun i v c hv hc=>ih i v c hv hc (Ev l i c (by simpa [V.noI] using e) hc)
  | tup vs l h1 h2 ih=>exact fun e=>.tup vs l h1 fun i v c hv hc=>ih i v c hv hc (Ev l i c (by simpa [V.noI] using e) hc)
  | _=>intro e;simp [V.noI] at e
theorem Rep.noI {w:World} {I J:Nat→Prop} {bl bl':Nat→Option BI} {v:Value} {x:V} (h:Rep w I bl v x) (hb:∀k i,bl k=some i→bl' k=some i):x.noI=true→Rep w J bl' v x:=by
  induction h with
  | pure v x h=>exact fun e=>.pure v x (h.noI e)
  | nsl k base z h=>exact fun _=>.nsl k base z (hb _ _ h)
  | sl k off len cap b base z m e h1 h2 h3 h4 h5=>exact fun _=>.sl k off len cap b base z m e (hb _ _ h1) h2 h3 h4 h5
  | esl k off a i h=>exact fun _=>.esl k off a i (hb _ _ h)
  | ptr k i j b base z m e h1 h2=>exact fun _=>.ptr k i j b base z m e (hb _ _ h1) h2
  | it k b base z h1=>exact fun _=>.it k b base z (hb _ _ h1)
  | agg vs l h1 h2 h3 ih=>exact fun e=>.agg vs l h1 h2 fun i v c hv hc=>ih i v c hv hc (Ev l i c (by simpa [V.noI] using e) hc)
  | fn f vs l h1 h2 ih=>intro e;simp [V.noI] at e
  | tup vs l h1 h2 ih=>exact fun e=>.tup vs l h1 fun i v c hv hc=>ih i v c hv hc (Ev l i c (by simpa [V.noI] using e) hc)
def Ob.noI:Ob→Bool
  | .row _ els=>J9 els
  | _=>false
theorem XW {x c:V} {j:Nat} (h:x.noI=true) (hc:x.cells[j]?=some c):c.noI=true:=by
  cases x with
  | agg l=>exact Ev l j c (by simpa [V.noI] using h) hc
  | _=>
    simp only [V.cells] at hc
    cases j with
    | zero=>simp only [List.getElem?_cons_zero,Option.some.injEq] at hc;subst hc;exact h
    | succ j=>simp at hc
theorem ObRep.noI {w:World} {I J:Nat→Prop} {bl bl':Nat→Option BI} {id:Nat} {o:Ob} (h:ObRep w I bl id o) (hb:∀k i,bl k=some i→bl' k=some i) (hl:o.noI=true):ObRep w J bl' id o:=by
  cases o with
  | row z els=>
    obtain ⟨bi,h1,h2,h3,h4⟩:=h
    refine ⟨bi,hb _ _ h1,h2,h3,?_⟩
    cases hbb:bi.blk with
    | none=>rw [hbb] at h4;exact h4
    | some b=>
      rw [hbb] at h4
      obtain ⟨cur,e,g1,g2,g3⟩:=h4
      refine ⟨cur,e,g1,g2,fun i x j c hx hc=>?_⟩
      obtain ⟨u,k1,k2,k3⟩:=g3 i x j c hx hc
      exact ⟨u,k1,k2,k3.noI hb (XW (Ev els i x hl hx) hc)⟩
  | _=>simp [Ob.noI] at hl
theorem QK {P:Program} {f:FuncId} {args0 args1:List V} {objs0:List Ob} {fixed:List Nat} {R:V→List Ob→Prop} (k z:Nat) {els:List V} (h:HFn P f args0 objs0 fixed R) (hk:objs0.length=k) (hnr:BN els) (he:An k els args1=args0)
    (hfz:∀(j:Nat) (o:Ob),objs0[j]?=some o→o.frz k els=o) (hfx:∀j∈fixed,j < k) (hR:∀r o,R r o→r.noI=true∧∀(j:Nat) (ob:Ob),o[j]?=some ob→ob.noI=true):
    HFn P f args1 (objs0++[.row z els]) (k::fixed) (fun r o=>∃o0,R r o0∧o=o0++[.row z els]):=by
  intro w I bl vs hlen hargs hH
  have hat:((objs0++[Ob.row z els]).map some)[k]?=some (some (.row z els)):=by
    rw [List.getElem?_map,List.getElem?_append_right (by omega),hk,Nat.sub_self];rfl
  obtain ⟨bi,hb1,hb2,hb3,hb4⟩:=hH.obj k _ hat
  let I':Nat→Prop:=fun b=>I b∨bi.blk=some b
  let bl':Nat→Option BI:=fun j=>if j=k then none else bl j
  have hb:∀j,j≠k→bl' j=bl j:=fun j hj=>if_neg hj
  have hbk:bl' k=none:=if_pos rfl
  have hsub:∀j i,bl' j=some i→j < k∧bl j=some i:=fun j i hj=>by
    by_cases e:j=k
    . subst e;rw [hbk] at hj;cases hj
    . rw [hb j e] at hj
      obtain ⟨o,ho⟩:=hH.live j i hj
      have:=(List.getElem?_eq_some_iff.1 ho).1
      simp at this
      exact ⟨by omega,hj⟩
  have hf:Frz w I I' bl bl' k els:=by
    refine ⟨fun b h=>.inl h,hb,?_,?_⟩
    . intro i b h1 h2
      rw [hb1] at h1
      simp only [Option.some.injEq] at h1
      subst h1
      refine ⟨.inr h2,fun k x hx=>by rw [hb2];exact hb3 k x hx,?_⟩
      rw [h2] at hb4
      obtain ⟨cur,e,hg,hsz,hc⟩:=hb4
      intro k x j c hx hxc
      obtain ⟨u,hu,h1',hr⟩:=hc k x j c hx hxc
      refine ⟨u,?_,h1',(hr.pr (Dy (Bw els k x hnr hx) j c hxc)).later (fun _ _=>rfl) (fun b h=>.inl h)⟩
      rw [hg.cell,hb2]
      exact hu
    . intro i h1 h2
      rw [hb1] at h1
      simp only [Option.some.injEq] at h1
      subst h1
      rw [h2] at hb4
      exact hb4
  have hHc:HeapRep ⟨P,w,Ah bl',I'⟩ (objs0.map some) w I' bl':=by
    refine ⟨fun j o ho=>?_,fun j i hj=>?_,fun j j' i i' b h1 h2 h3 h4=>?_,fun j i b h1 h2=>?_,fun b hb'=>⟨?_,.inl hb'⟩,Kept.refl _ _⟩
    . have ho':objs0[j]?=some o:=by
        rw [List.getElem?_map,Option.map_eq_some_iff] at ho
        obtain ⟨o2,h1,h2⟩:=ho
        simp only [Option.some.injEq] at h2
        rw [h1,h2]
      have hj:j < k:=by rw [←hk];exact (List.getElem?_eq_some_iff.1 ho').1
      have:=(hH.obj j o (by rw [List.getElem?_map,List.getElem?_append_left (by omega),ho'];rfl)).frz hf (by omega)
      rwa [hfz j o ho'] at this
    . obtain ⟨hj',_⟩:=hsub j i hj
      exact ⟨objs0[j]'(by omega),by rw [List.getElem?_map,List.getElem?_eq_getElem (by omega)];rfl⟩
    . exact hH.apart j j' i i' b (hsub j i h1).2 (hsub j' i' h2).2 h3 h4
    . obtain ⟨hj,h1'⟩:=hsub j i h1
      obtain ⟨g1,g2,g3⟩:=hH.own j i b h1' h2
      refine ⟨g1,fun hh=>hh.elim g2 fun e=>?_,.inl ⟨j,i,h1,h2⟩⟩
      have:=hH.apart j k i bi b h1' hb1 h2 e
      omega
    . rcases hb' with hb'|hb'
      . exact (hH.imm b hb').1
      . exact (hH.own k bi b hb1 hb').1
  subst he
  refine (h w I' bl' vs (by rw [As];exact hlen) (fun i v x hv hx=>?_) hHc).mono ?_
  . obtain ⟨y,hy,rfl⟩:=BU k els args1 i x hx
    exact (hargs i v y hv hy).frz hf
  rintro e w' ⟨v,r,objs',I'',bl'',rfl,hRR,hlen',hrep,hH',hfix⟩
  obtain ⟨hr1,hr2⟩:=hR _ _ hRR
  rw [hk] at hlen'
  have hlive:∀j i,bl'' j=some i→j < k:=fun j i hj=>by
    obtain ⟨o,ho⟩:=hH'.live j i hj
    have:=(List.getElem?_eq_some_iff.1 ho).1
    simpa [hlen'] using this
  let bl3:Nat→Option BI:=fun j=>if j=k then bl k else bl'' j
  have h3:∀j,j≠k→bl3 j=bl'' j:=fun j hj=>if_neg hj
  have h3k:bl3 k=bl k:=if_pos rfl
  have hext:∀j i,bl'' j=some i→bl3 j=some i:=fun j i hj=>by rw [h3 j (by have:=hlive j i hj;omega)];exact hj
  have hkeep:∀b,b < w.heap.size→¬Ah bl' b→w'.heap[b]?=w.heap[b]?:=fun b h1 h2=>hH'.kept.block b h1 h2
  have hsize:w.heap.size≤w'.heap.size:=hH'.kept.size
  have hbo:∀b,Ah bl' b→∃j i,j < k∧bl j=some i∧i.blk=some b:=fun b ⟨j,i,h1,h2⟩=>⟨j,i,(hsub j i h1).1,(hsub j i h1).2,h2⟩
  have hnI:∀b,Ah bl' b→¬I b:=fun b hb'=>by
    obtain ⟨j,i,_,h1,h2⟩:=hbo b hb'
    exact (hH.own j i b h1 h2).2.1
  have hlater:Later I w w':=⟨fun b hb'=>hkeep b (hH.imm b hb').1 (fun h=>hnI b h hb'),hH'.kept.shape⟩
  have hnk:∀b,bi.blk=some b→¬Ah bl' b:=fun b hb' h=>by
    obtain ⟨j,i,hj,h1,h2⟩:=hbo b h
    have:=hH.apart j k i bi b h1 hb1 h2 hb'
    omega
  refine ⟨v,r,objs'++[.row z els],I,bl3,rfl,⟨objs',hRR,rfl⟩,by simp [hlen',hk],hrep.noI hext hr1,⟨fun j o ho=>?_,fun j i hj=>?_,fun j j' i i' b h1 h2 h4 h5=>?_,fun j i b h1 h2=>?_,fun b hb'=>⟨Nat.lt_of_lt_of_le (hH.imm b hb').1 hsize,.inl hb'⟩,⟨hH'.kept.os,hH'.kept.tape,hH'.kept.output,hsize,fun b h1 h2=>hkeep b h1 fun h=>h2 ?_,hH'.kept.shape⟩⟩,fun j hj=>?_⟩
  . rw [List.getElem?_map] at ho
    by_cases hjk:j < k
    . rw [List.getElem?_append_left (by omega),Option.map_eq_some_iff] at ho
      obtain ⟨o2,h1,h2⟩:=ho
      simp only [Option.some.injEq] at h2
      subst h2
      exact (hH'.obj j o2 (by rw [List.getElem?_map,h1];rfl)).noI hext (hr2 j o2 h1)
    . by_cases hjk2:j=k
      . subst hjk2
        rw [List.getElem?_append_right (by omega),hlen',Nat.sub_self] at ho
        simp only [List.getElem?_cons_zero,Option.map_some,Option.some.injEq] at ho
        subst ho
        refine ⟨bi,by rw [h3k];exact hb1,hb2,hb3,?_⟩
        cases hbb:bi.blk with
        | none=>rw [hbb] at hb4;exact hb4
        | some b=>
          rw [hbb] at hb4
          obtain ⟨cur,e,hg,hsz,hc⟩:=hb4
          have hsame:=hkeep b (hH.own j bi b hb1 hbb).1 (hnk b hbb)
          have hg':CellsAt z w' b cur e:=by
            obtain ⟨fz,q1,q2⟩:=hg
            exact ⟨fz,q1,hsame.trans q2⟩
          refine ⟨cur,e,hg',hsz,fun i x j' c hx hxc=>?_⟩
          obtain ⟨u,hu,h1',hr⟩:=hc i x j' c hx hxc
          exact ⟨u,hu,h1',.pure _ _ ((hr.pr (Dy (Bw els i x hnr hx) j' c hxc)).later hlater.block (fun _ h=>h))⟩
      . rw [List.getElem?_eq_none (by simp [hlen'];omega)] at ho
        cases ho
  . by_cases hjk:j=k
    . subst hjk
      exact ⟨.row z els,by rw [List.getElem?_map,List.getElem?_append_right (by omega),hlen',Nat.sub_self];rfl⟩
    . rw [h3 j hjk] at hj
      have hlt:=hlive j i hj
      exact ⟨objs'[j]'(by omega),by rw [List.getElem?_map,List.getElem?_append_left (by omega),List.getElem?_eq_getElem (by omega)];rfl⟩
  . have key:∀j j' i i',j≠k→j'=k→bl3 j=some i→bl3 j'=some i'→i.blk=some b→i'.blk=some b→False:=by
      intro j j' i i' hj hj' h1 h2 h4 h5
      subst hj'
      rw [h3 j hj] at h1
      rw [h3k,hb1] at h2
      simp only [Option.some.injEq] at h2
      subst h2
      rcases (hH'.own j i b h1 h4).2.2 with g|g
      . exact hnk b h5 g
      . have g':w.heap.size≤b:=g
        have:=(hH.own _ bi b hb1 h5).1
        omega
    by_cases hjk:j=k
    . by_cases hjk':j'=k
      . rw [hjk,hjk']
      . exact (key j' j i' i hjk' hjk h2 h1 h5 h4).elim
    . by_cases hjk':j'=k
      . exact (key j j' i i' hjk hjk' h1 h2 h4 h5).elim
      . rw [h3 j hjk] at h1
        rw [h3 j' hjk'] at h2
        exact hH'.apart j j' i i' b h1 h2 h4 h5
  . by_cases hjk:j=k
    . subst hjk
      rw [h3k] at h1
      obtain ⟨g1,g2,g3⟩:=hH.own _ i b h1 h2
      exact ⟨Nat.lt_of_lt_of_le g1 hsize,g2,g3⟩
    . rw [h3 j hjk] at h1
      obtain ⟨g1,g2,g3⟩:=hH'.own j i b h1 h2
      have g3:Ah bl' b∨w.heap.size≤b:=g3
      rcases g3 with g3|g3
      . obtain ⟨j2,i2,_,q1,q2⟩:=hbo b g3
        exact ⟨g1,hnI b g3,.inl ⟨j2,i2,q1,q2⟩⟩
      . exact ⟨g1,fun hh=>by have:=(hH.imm b hh).1;omega,.inr g3⟩
  . obtain ⟨j2,i2,_,q1,q2⟩:=hbo b h
    exact ⟨j2,i2,q1,q2⟩
  . rcases List.mem_cons.1 hj with rfl|hj
    . exact h3k
    . have hlt:=hfx j hj
      rw [h3 j (by omega),hfix j hj,hb j (by omega)]
end Go.Proofs.YtkaiffheakalmaaGreatDoor
