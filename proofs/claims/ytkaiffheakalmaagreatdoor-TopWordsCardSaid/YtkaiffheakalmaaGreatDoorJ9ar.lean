/- Joined. No conditions. -/
import Derived.Test.YtkaiffheakalmaaGreatDoorJ9aq
import Derived.Test.YtkaiffheakalmaaGreatDoorRows
import Derived.WalkKit
import Derived.ProofKit
import Derived.OpenShut
import Derived.JoinedCond
import Derived.Deep.CondSized
import Derived.SizedLaws
set_option linter.unusedSimpArgs false
set_option linter.unusedVariables false
set_option maxRecDepth 100000
namespace Go.Proofs.YtkaiffheakalmaaGreatDoor
section
open Go.RowKit
def Oe (i j k:Nat):Nat:=if k=i then j else k
mutual
def V.mv (i j:Nat):V→V
 | .sl k o n=>.sl (Oe i j k) o n
 | .ptr k a b=>.ptr (Oe i j k) a b
 | .it k=>.it (Oe i j k)
 | .agg l=>.agg (G3 i j l)
 | .fn f l=>.fn f (G3 i j l)
 | .tup l=>.tup (G3 i j l)
 | x=>x
def G3 (i j:Nat):List V→List V
 | []=>[]
 | x::l=>x.mv i j::G3 i j l
end
def Ob.mv (i j:Nat):Ob→Ob
 | .row z l=>.row z (G3 i j l)
 | .iter s p=>.iter s p
 | .mp es=>.mp es
 | .hid vs l=>.hid vs (G3 i j l)
 | .bld T y=>.bld T (y.map fun y=>(Oe i j y.1,y.2))
 | .buf U s=>.buf U s
def Of (i j:Nat):List (Option Ob)→List (Option Ob)
 | []=>[]
 | none::r=>none::Of i j r
 | some o::r=>some (o.mv i j)::Of i j r
theorem Bz (a b:Nat):∀l,(G3 a b l).length=l.length
 | []=>by simp [G3]
 | x::l=>by simp [G3,Bz a b l]
theorem DP (a b:Nat):∀(l:List V) (i:Nat) (c:V),(G3 a b l)[i]?=some c→∃x,l[i]?=some x∧c=x.mv a b
 | [],i,c,h=>by simp [G3] at h
 | x::l,0,c,h=>by simp [G3] at h;exact ⟨x,rfl,h.symm⟩
 | x::l,i+1,c,h=>by
   simp only [G3,List.getElem?_cons_succ] at h
   obtain ⟨y,hy,e⟩:=DP a b l i c h
   exact ⟨y,by simpa using hy,e⟩
theorem Pn (a b:Nat):∀(h:List (Option Ob)) (k:Nat) (o:Ob),(Of a b h)[k]?=some (some o)→∃o',h[k]?=some (some o')∧o=o'.mv a b
 | [],k,o,h=>by simp [Of] at h
 | none::r,0,o,h=>by simp [Of] at h
 | some x::r,0,o,h=>by simp [Of] at h;exact ⟨x,rfl,h.symm⟩
 | none::r,k+1,o,h=>by simp only [Of,List.getElem?_cons_succ] at h;simpa using Pn a b r k o h
 | some x::r,k+1,o,h=>by simp only [Of,List.getElem?_cons_succ] at h;simpa using Pn a b r k o h
theorem JP (a b:Nat):∀(h:List (Option Ob)) (k:Nat) (o:Ob),h[k]?=some (some o)→(Of a b h)[k]?=some (some (o.mv a b))
 | [],k,o,h=>by simp at h
 | none::r,0,o,h=>by simp at h
 | some x::r,0,o,h=>by simp at h;subst h;simp [Of]
 | none::r,k+1,o,h=>by simp only [Of,List.getElem?_cons_succ] at h ⊢;exact JP a b r k o h
 | some x::r,k+1,o,h=>by simp only [Of,List.getElem?_cons_succ] at h ⊢;exact JP a b r k o h
theorem Ic (a b:Nat):∀h,(Of a b h).length=h.length
 | []=>rfl
 | none::r=>by simp [Of,Ic a b r]
 | some _::r=>by simp [Of,Ic a b r]
theorem RV (a b:Nat) (x:V):(x.mv a b).cells=G3 a b x.cells:=by cases x<;>simp [V.mv,V.cells,G3]
theorem Pr.mv {w:World} {I:Nat→Prop} {v:Value} {x:V} (a b:Nat) (h:Pr w I v x):Pr w I v (x.mv a b):=by
 induction h with
 | any v=>exact .any v
 | bool b=>exact .bool b
 | int k n=>exact .int k n
 | str s h=>exact .str s h
 | nils=>exact .nils
 | lnil a cap=>exact .lnil a cap
 | lst b off cap z l u h1 h2 h3 h4 h5 h6 h7 ih=>exact .lst b off cap z l u h1 h2 h3 h4 h5 h6 h7
 | agg vs l h1 h2 h3 ih=>
   simp only [V.mv]
   refine .agg vs _ (by rw [Bz,h1]) h2 ?_
   intro i v c hv hc
   obtain ⟨x,hx,rfl⟩:=DP a b l i c hc
   exact ih i v x hv hx
 | rp b off l u h1 h2 h3 h4 ih=>exact .rp b off l u h1 h2 h3 h4
 | fn f vs l h1 h2 ih=>
   simp only [V.mv]
   refine .fn f vs _ (by rw [Bz,h1]) ?_
   intro i v c hv hc
   obtain ⟨x,hx,rfl⟩:=DP a b l i c hc
   exact ih i v x hv hx
 | tup vs l h1 h2 ih=>
   simp only [V.mv]
   refine .tup vs _ (by rw [Bz,h1]) ?_
   intro i v c hv hc
   obtain ⟨x,hx,rfl⟩:=DP a b l i c hc
   exact ih i v x hv hx
 | nilp=>exact .nilp
 | nili=>exact .nili
 | ifi t k n=>exact .ifi t k n
 | ifx t v=>exact .ifx t v
 | gp g=>exact .gp g
 | gsl g n h=>exact .gsl g n h
theorem Rep.mv {w:World} {I:Nat→Prop} {bl bl':Nat→Option BI} {a b:Nat} (hb:∀k i,bl k=some i→bl' (Oe a b k)=some i) {v:Value} {x:V} (h:Rep w I bl v x):Rep w I bl' v (x.mv a b):=by
 induction h with
 | pure v x h=>exact .pure v _ (h.mv a b)
 | nsl k base z h=>exact .nsl _ base z (hb k _ h)
 | sl k off len cap b base z n e h1 h2 h3 h4 h5=>exact .sl _ off len cap b base z n e (hb k _ h1) h2 h3 h4 h5
 | esl k off a i h=>exact .esl _ off a i (hb k _ h)
 | ptr k i j b base z n e h1 h2=>exact .ptr _ i j b base z n e (hb k _ h1) h2
 | it k b base z h1=>exact .it _ b base z (hb k _ h1)
 | agg vs l h1 h2 h3 ih=>
   simp only [V.mv]
   refine .agg vs _ (by rw [Bz,h1]) h2 ?_
   intro i v c hv hc
   obtain ⟨x,hx,rfl⟩:=DP a b l i c hc
   exact ih i v x hv hx
 | fn f vs l h1 h2 ih=>
   simp only [V.mv]
   refine .fn f vs _ (by rw [Bz,h1]) ?_
   intro i v c hv hc
   obtain ⟨x,hx,rfl⟩:=DP a b l i c hc
   exact ih i v x hv hx
 | tup vs l h1 h2 ih=>
   simp only [V.mv]
   refine .tup vs _ (by rw [Bz,h1]) ?_
   intro i v c hv hc
   obtain ⟨x,hx,rfl⟩:=DP a b l i c hc
   exact ih i v x hv hx
theorem ObRep.mv {w:World} {I:Nat→Prop} {bl bl':Nat→Option BI} {a b:Nat} (hb:∀k i,bl k=some i→bl' (Oe a b k)=some i) {k:Nat} {o:Ob} (hh:bl k=none→bl' (Oe a b k)=none) (h:ObRep w I bl k o):ObRep w I bl' (Oe a b k) (o.mv a b):=by
 cases o with
 | row z l=>
   obtain ⟨bi,h1,h2,h3,h4⟩:=h
   refine ⟨bi,hb k _ h1,h2,fun i x hx=>?_,?_⟩
   ·obtain ⟨y,hy,rfl⟩:=DP a b l i x hx
    rw [RV,Bz];exact h3 i y hy
   ·cases hbl:bi.blk with
    | none=>simp only [hbl] at h4 ⊢;subst h4;rfl
    | some blk=>
      simp only [hbl] at h4 ⊢
      obtain ⟨cur,e,hg,hsz,hc⟩:=h4
      refine ⟨cur,e,hg,by rw [Bz];exact hsz,?_⟩
      intro i x j c hx hxc
      obtain ⟨y,hy,rfl⟩:=DP a b l i x hx
      rw [RV] at hxc
      obtain ⟨c',hc',rfl⟩:=DP a b _ j c hxc
      obtain ⟨u,hu,h1',hr⟩:=hc i y j c' hy hc'
      exact ⟨u,hu,h1',hr.mv hb⟩
 | iter s pos=>
   obtain ⟨b',base,z,t,h1,h2,h3,h4⟩:=h
   exact ⟨b',base,z,t,hb k _ h1,h2,h3,h4⟩
 | mp es=>
   obtain ⟨b',base,z,t,h1,h2,h3,h4⟩:=h
   exact ⟨b',base,z,t,hb k _ h1,h2,h3,h4⟩
 | bld T y=>
   obtain ⟨b',p,v,h1,h2,h3,h4,h5⟩:=h
   refine ⟨b',p,v,hb k _ h1,h2,h3,h4,?_⟩
   have h6:=h5.mv hb
   cases y with
   | none=>exact .pure _ _ (.any _)
   | some y=>obtain ⟨q,n⟩:=y;cases n<;>exact h6
 | buf U s=>
   obtain ⟨blk,h1,h2⟩:=h
   exact ⟨blk,hb k _ h1,h2⟩
 | hid vs l=>exact ⟨hh h.1,by simp [Bz,h.2.1],fun i v x hv hx=>by
    obtain ⟨y,hy,rfl⟩:=DP a b l i x hx
    exact (h.2.2 i v y hv hy).mv hb⟩
def D5 (a b:Nat) (h:List (Option Ob)):List (Option Ob):=((Of a b h).set b ((Of a b h).getD a none)).set a none
def St.mv (a b:Nat) (σ:St):St:={ env:=G3 a b σ.env,heap:=D5 a b σ.heap}
theorem Og {a b:Nat} {h:List (Option Ob)} {id:Nat} (h1:id≠a) (h2:id≠b):(D5 a b h)[id]?=(Of a b h)[id]?:=by
 unfold D5
 rw [List.getElem?_set_ne (Ne.symm h1),List.getElem?_set_ne (Ne.symm h2)]
theorem Oh {a b:Nat} {h:List (Option Ob)} {o:Ob} (hab:a≠b) (hb:b < h.length) (ha:h[a]?=some (some o)):(D5 a b h)[b]?=some (some (o.mv a b)):=by
 unfold D5
 rw [List.getElem?_set_ne hab,List.getElem?_set_self (by rw [Ic];exact hb)]
 simp [List.getD,JP a b h a o ha]
theorem RW {a b:Nat} {h:List (Option Ob)} {o:Ob}:(D5 a b h)[a]?≠some (some o):=by
 unfold D5
 rw [List.getElem?_set]
 simp only [if_true]
 split<;>simp
theorem RP.mv {C:Ctx} {σ:St} {act:Act} {w:World} {I:Nat→Prop} {bl:Nat→Option BI} (hp:RP C σ act w I bl) {a b:Nat} {o:Ob} (hab:a≠b) (ha:σ.heap[a]?=some (some o)) (hn:σ.heap[b]?=some none):Rel C (σ.mv a b) act w:=by
 let bl':Nat→Option BI:=fun k=>if k=b then bl a else if k=a then none else bl k
 have hlt:b < σ.heap.length:=(List.getElem?_eq_some_iff.1 hn).1
 have hbb:∀i,bl b=some i→False:=fun i h=>by
  obtain ⟨o',h'⟩:=hp.heap.live b i h
  rw [hn] at h'
  simp at h'
 have hbn:bl b=none:=by
  cases h:bl b with
  | none=>rfl
  | some i=>exact (hbb i h).elim
 have hb:∀k i,bl k=some i→bl' (Oe a b k)=some i:=by
  intro k i h
  unfold Oe
  split
  ·rename_i e;subst e;simp only [bl',if_true];exact h
  ·rename_i e
   have e2:k≠b:=fun e2=>hbb i (e2▸h)
   simp only [bl',if_neg e2,if_neg e];exact h
 have hinv:∀k i,bl' k=some i→k≠a∧bl (if k=b then a else k)=some i:=by
  intro k i h
  by_cases e:k=b
  ·subst e
   simp only [bl',if_true] at h ⊢
   exact ⟨Ne.symm hab,h⟩
  ·by_cases e2:k=a
   ·subst e2;simp [bl',e] at h
   ·simp only [bl',if_neg e,if_neg e2] at h ⊢
    exact ⟨e2,h⟩
 refine RP.rel (I:=I) (bl:=bl') ⟨hp.defers,⟨by simp only [St.mv,Bz];exact hp.env.1,fun i v x hv hx=>?_⟩,⟨?_,?_,?_,?_,hp.heap.imm,hp.heap.kept⟩⟩
 ·obtain ⟨y,hy,rfl⟩:=DP a b σ.env i x hx
  exact (hp.env.2 i v y hv hy).mv hb
 ·intro k x hx
  simp only [St.mv] at hx
  by_cases e:k=a
  ·subst e;exact (RW hx).elim
  ·by_cases e2:k=b
   ·subst e2
    rw [Oh hab hlt ha] at hx
    simp only [Option.some.injEq] at hx
    subst hx
    have:=(hp.heap.obj a o ha).mv (bl':=bl') hb (fun h=>by simp only [Oe,if_true,bl'];exact h)
    simpa [Oe] using this
   ·rw [Og e e2] at hx
    obtain ⟨o',h',rfl⟩:=Pn a b _ k x hx
    have:=(hp.heap.obj k o' h').mv (bl':=bl') hb (fun h=>by simp only [Oe,if_neg e,bl',if_neg e2];exact h)
    simpa [Oe,e] using this
 ·intro k i h
  obtain ⟨e,h'⟩:=hinv k i h
  obtain ⟨o',ho'⟩:=hp.heap.live _ i h'
  by_cases e2:k=b
  ·subst e2
   exact ⟨_,Oh hab hlt ha⟩
  ·rw [if_neg e2] at ho'
   exact ⟨_,by simp only [St.mv];rw [Og e e2];exact JP a b _ k o' ho'⟩
 ·intro k k' i i' blk h1 h2 h3 h4
  obtain ⟨e1,g1⟩:=hinv k i h1
  obtain ⟨e2,g2⟩:=hinv k' i' h2
  have:=hp.heap.apart _ _ i i' blk g1 g2 h3 h4
  split at this<;>split at this
  ·simp_all
  ·exact absurd this.symm e2
  ·exact absurd this e1
  ·exact this
 ·intro k i blk h1 h2
  exact hp.heap.own _ i blk (hinv k i h1).2 h2
theorem iM {C:Ctx} {T:St→Prop} {σ:St} {a b:Nat} {o:Ob} (hab:a≠b) (ha:σ.heap[a]?=some (some o)) (hn:σ.heap[b]?=some none) (h:Up C T (σ.mv a b)):Up C T σ:=
 BS (fun _ _ hr=>let ⟨_,_,hp⟩:=hr.parts;hp.mv hab ha hn) h
def ep (a b:Nat) (u:List (Nat×V)):List (Nat×V):=u.map fun p=>(p.1,p.2.mv a b)
theorem eq (a b:Nat):V.any.mv a b= .any:=by simp [V.mv]
theorem RX (a b t:Nat):∀u:List (Nat×V),AU (ep a b u) t=(AU u t).mv a b
 | []=>by simp [ep,AU,eq]
 | (d,x)::u=>by
   have:=RX a b t u
   unfold ep at this ⊢
   simp only [List.map_cons,AU]
   split
   ·rfl
   ·exact this
theorem MY (a b:Nat):∀l,G3 a b l=l.map (V.mv a b)
 | []=>by simp [G3]
 | x::l=>by simp [G3,MY a b l]
theorem er (n a b:Nat) (u:List (Nat×V)) (h h':List (Option Ob)):G3 a b (ES.env ⟨n,u,h⟩)=ES.env ⟨n,ep a b u,h'⟩:=by
 rw [MY]
 unfold ES.env
 rw [List.map_map]
 exact List.map_congr_left fun t _=>(RX a b t u).symm
theorem Fk {C:Ctx} {K:ES→Prop} (a b:Nat) {n:Nat} {o:Ob} {u:List (Nat×V)} {h:List (Option Ob)} (hab:a≠b) (ha:h[a]?=some (some o)) (hn:h[b]?=some none) (hk:UpE C K ⟨n,ep a b u,D5 a b h⟩):UpE C K ⟨n,u,h⟩:=by
 refine ⟨iM (σ:=(ES.mk n u h).st) (a:=a) (b:=b) (o:=o) hab ha hn ?_⟩
 show Up C (Ks K) { env:=G3 a b (ES.env ⟨n,u,h⟩),heap:=D5 a b h}
 rw [er n a b u h (D5 a b h)]
 exact hk.out
end
section
open Go.ChangeShapes Go.WideShapes Go.ChangeAt Go.RowKit
theorem Wt:ownKnob Tryz.prog.godebug=none:=by kernel_rfl
theorem N4:laidOutB Tryz.prog=true:=by kernel_rfl
theorem Ml {H:Type} {enc:TypeId×Value→H} {P:Program} (hl:laidOutB P=true) {W W':World} (hb:Below W.heap.size W W'):
 ∀(ts:List TypeId) (vs:List Value) (ds:List (DataW H)) (ps:List MemPlace),(∀t∈ts,P.readableRec t=true∧t < P.types.size)→
   DataW.TrodAll enc P W 0 (fun _=>true) true ts vs ds ps→(∀x∈ps,x.block < W.heap.size)→
   DataW.TrodAll enc P W' 0 (fun b=>decide (b < W.heap.size)) true ts vs ds ps
 | [],[],[],ps,_,h,_=>h
 | t::ts,v::vs,d::ds,ps,hr,h,hlt=>by
   obtain ⟨p,q,h1,h2,rfl⟩:=h
   exact ⟨p,q,Below.trod hl (hr t (by simp)).1 (hr t (by simp)).2 h1 hb (fun x hx=>hlt x (by simp [hx])),
    Ml hl hb ts vs ds q (fun t ht=>hr t (by simp [ht])) h2 (fun x hx=>hlt x (by simp [hx])),rfl⟩
 | [],_::_,_,_,_,h,_=>by simp [DataW.TrodAll] at h
 | [],[],_::_,_,_,h,_=>by simp [DataW.TrodAll] at h
 | _::_,[],_,_,_,h,_=>by simp [DataW.TrodAll] at h
 | _::_,_::_,[],_,_,h,_=>by simp [DataW.TrodAll] at h
theorem Th {H:Type} {enc:TypeId×Value→H} {P:Program} {fn:Func} {s:ChangeSpec} {bt:TypeId} (hl:laidOutB P=true)
 (hr0:fn.params.toList.all (fun t=>P.readableRec t&&decide (t < P.types.size))=true) (hbt:P.underlying bt=some .bool) (hres:fn.resultTypes=#[bt]) (hv:s.vars=[])
 {W W':World} {args:Array Value} {ds gs:List (DataW H)} {before:List MemPlace} (hW:DataW.Whole enc P fn.params.toList s.vars false W args.toList ds gs before)
 (hs:s.fn H (ds++gs)={ results:=[.lit (.bool true)],args:=ds}) (hb:Below W.heap.size W W'):s.post enc P fn false true false false W args (.bool true) W':=by
 have hr:∀t∈fn.params.toList,P.readableRec t=true∧t < P.types.size:=fun t ht=>by simpa using List.all_eq_true.1 hr0 t ht
 have hW':=hW
 obtain ⟨p,q,hA,hV,rfl,_,_⟩:=hW
 refine ⟨ds,gs,p++q,[],p,[],hW',?_,?_,?_,?_,?_⟩
 ·rw [hs,hres]
  exact trodAll_mk1 (shut_bool hbt true)
 ·rw [hs]
  exact Ml hl hb _ _ _ _ hr hA (fun x hx=>hW'.lt x (by simp [hx]))
 ·rw [hs,hv]
  exact rfl
 ·exact hb.frame _
 ·intro h
  cases h
theorem On {H:Type} {enc:TypeId×Value→H} {P:Program} {w:World} {b:Nat} {sp:Nat→Bool} {hd:Bool}:∀(ts:List TypeId) (vs:List Value) (ds:List (DataW H)) (ps:List MemPlace),DataW.TrodAll enc P w b sp hd ts vs ds ps→ds.length=ts.length
 | [],[],[],_,_=>rfl
 | t::ts,v::vs,d::ds,ps,h=>by
   obtain ⟨p,q,_,h2,_⟩:=h
   simp [On ts vs ds q h2]
 | [],_::_,_,_,h=>by simp [DataW.TrodAll] at h
 | [],[],_::_,_,h=>by simp [DataW.TrodAll] at h
 | _::_,[],_,_,h=>by simp [DataW.TrodAll] at h
 | _::_,_::_,[],_,h=>by simp [DataW.TrodAll] at h
theorem ZW {H:Type} {enc:TypeId×Value→H} {P:Program} {w:World} {sp:Nat→Bool} {gs:List (DataW H)} {q:List MemPlace} {vars:List String} (hv:vars=[]) (h:DataW.TrodVars enc P w sp vars gs q):gs=[]:=by
 subst hv
 cases gs with
 | nil=>rfl
 | cons g gs=>simp [DataW.TrodVars] at h
def P1 (P:Program) (ts:List TypeId) (H:Type) (ds:List (DataW H)):Prop:=(DataW.weightsEach P ts ds).all (·≤reachBytes)=true
end
section
theorem kr {α:Sort _} {a b:α} (h:a=b):a=b:=h
def Bi:TRec:={ ti:=some (false,1),zv:=some (.any),zok:=some 1,by':=some 8,un:=true}
def dk:TRec:={ ti:=some (false,1),zv:=some (.nilp),zok:=some 1,by':=some 8,ptr:=true,un:=true}
def jn:TRec:={ ti:=some (false,1),zv:=some (.int .i64 0),zok:=some 1,by':=some 8,ik:=some .i64,un:=true}
def jo:TRec:={ ti:=some (false,1),zv:=some (.int .u64 0),zok:=some 1,by':=some 8,ik:=some .u64,un:=true}
def jp:TRec:={ ti:=some (true,2),fi:=[some (0,(false,1)),some (1,(false,1))],si:=some [(0,1),(1,1)],zv:=some (.agg [.nils,.nils]),zok:=some 2,by':=some 48,un:=true}
def kS:TRec:={ ti:=some (true,3),fi:=[some (0,(false,1)),some (1,(false,1)),some (2,(false,1))],si:=some [(0,1),(1,1),(2,1)],zv:=some (.agg [.int .i64 0,.int .i64 0,.nils]),zok:=some 3,by':=some 40,un:=true}
def kT:TRec:={ ti:=some (true,3),fi:=[some (0,(false,1)),some (1,(false,1)),some (2,(false,1))],si:=some [(0,1),(1,1),(2,1)],zv:=some (.agg [.str [],.str [],.nils]),zok:=some 3,by':=some 56,un:=true}
def kW:TRec:={ ti:=some (true,3),fi:=[some (0,(false,1)),some (1,(false,1)),some (2,(false,1))],si:=some [(0,1),(1,1),(2,1)],zv:=some (.agg [.nils,.nils,.nils]),zok:=some 3,by':=some 72,un:=true}
def kX:TRec:={ ti:=some (true,5),fi:=[some (0,(false,1)),some (1,(true,2)),some (3,(false,1)),some (4,(false,1))],si:=some [(0,1),(1,2),(3,1),(4,1)],zv:=some (.agg [.nilp,.nils,.nils,.nils,.nils]),zok:=some 5,by':=some 104,un:=true}
def kY:TRec:={ ti:=some (true,5),fi:=[some (0,(false,1)),some (1,(false,1)),some (2,(false,1)),some (3,(false,1)),some (4,(false,1))],si:=some [(0,1),(1,1),(2,1),(3,1),(4,1)],zv:=some (.agg [.nils,.nils,.nils,.nils,.bool false]),zok:=some 5,by':=some 104,un:=true}
def jU:TRec:={ ti:=some (true,3),fi:=[some (0,(false,1)),some (1,(false,1)),some (2,(false,1))],si:=some [(0,1),(1,1),(2,1)],zv:=some (.agg [.nils,.nils,.bool false]),zok:=some 3,by':=some 56,un:=true}
def jV:TRec:={ ti:=some (true,2),fi:=[some (0,(false,1)),some (1,(false,1))],si:=some [(0,1),(1,1)],zv:=some (.agg [.nilp,.nils]),zok:=some 2,by':=some 32,un:=true}
def Tryz.tt:TT:=(.node (.node (.node (.node (.node (.node (.node (.node .leaf 1 Bi .leaf) 2 jn .leaf) 3 jn (.node (.node .leaf 4 { ti:=some (false,1),zv:=some (.bool false),zok:=some 1,by':=some 1,boo:=true,un:=true} .leaf) 5 { ti:=some (false,1),zv:=some (.int .u8 0),zok:=some 1,by':=some 1,ik:=some .u8,un:=true} .leaf)) 9 { ti:=some (false,1),zv:=some (.str []),zok:=some 1,by':=some 16,str:=true,ni:=true,un:=true} (.node (.node (.node .leaf 12 jo .leaf) 13 { ti:=some (true,2),fi:=[some (0,(false,1)),some (1,(false,1))],si:=some [(0,1),(1,1)],zv:=some (.agg [.str [],.int .u64 0]),zok:=some 2,by':=some 24,un:=true} .leaf) 21 { ti:=some (false,1),zv:=some (.int .i32 0),zok:=some 1,by':=some 4,ik:=some .i32,un:=true} (.node .leaf 22 { ti:=some (false,1),ei:=some (3,1),zv:=some (.nils),zok:=some 1,by':=some 24,sli:=true,ni:=true,un:=true} .leaf))) 23 { ti:=some (false,1),ei:=some (37,3),zv:=some (.nils),zok:=some 1,by':=some 24,sli:=true,ni:=true,un:=true} (.node (.node (.node (.node .leaf 24 Bi .leaf) 25 Bi .leaf) 26 Bi (.node (.node .leaf 27 jn .leaf) 29 Bi .leaf)) 30 { ti:=some (false,1),ei:=some (32,3),zv:=some (.nils),zok:=some 1,by':=some 24,sli:=true,ni:=true,un:=true} (.node (.node (.node .leaf 31 kS .leaf) 32 kS .leaf) 34 Bi (.node .leaf 35 { ti:=some (false,1),ei:=some (9,1),zv:=some (.nils),zok:=some 1,by':=some 24,sli:=true,ni:=true,un:=true} .leaf)))) 36 kT (.node (.node (.node (.node (.node .leaf 37 kT .leaf) 39 Bi .leaf) 40 Bi (.node (.node .leaf 42 Bi .leaf) 43 { ti:=some (false,1),ei:=some (22,1),zv:=some (.nils),zok:=some 1,by':=some 24,sli:=true,ni:=true,un:=true} .leaf)) 44 { ti:=some (false,1),ei:=some (4,1),zv:=some (.nils),zok:=some 1,by':=some 24,sli:=true,ni:=true,un:=true} (.node (.node (.node .leaf 45 jp .leaf) 46 jp .leaf) 48 Bi (.node .leaf 50 Bi .leaf))) 51 Bi (.node (.node (.node (.node .leaf 52 Bi .leaf) 53 dk .leaf) 55 Bi (.node .leaf 56 { ti:=some (false,1),ei:=some (46,2),zv:=some (.nils),zok:=some 1,by':=some 24,sli:=true,ni:=true,un:=true} .leaf)) 57 kW (.node (.node (.node .leaf 58 kW .leaf) 59 dk .leaf) 60 { ti:=some (true,2),fi:=[some (0,(false,1)),some (1,(false,1))],si:=some [(0,1),(1,1)],zv:=some (.agg [.str [],.bool false]),zok:=some 2,by':=some 24,un:=true} (.node .leaf 61 { ti:=some (true,2),fi:=[some (0,(false,1)),some (1,(false,1))],si:=some [(0,1),(1,1)],zv:=some (.agg [.str [],.bool false]),zok:=some 2,by':=some 24,un:=true,sq:=some [.s,.b]} .leaf))))) 62 Bi (.node (.node (.node (.node (.node (.node .leaf 63 Bi .leaf) 64 Bi .leaf) 65 Bi (.node (.node .leaf 66 Bi .leaf) 67 Bi .leaf)) 68 { ti:=some (true,2),fi:=[some (0,(false,1)),some (1,(false,1))],si:=some [(0,1),(1,1)],zv:=some (.agg [.int .i64 0,.int .i64 0]),zok:=some 2,by':=some 16,un:=true} (.node (.node (.node .leaf 69 { ti:=some (true,2),fi:=[some (0,(false,1)),some (1,(false,1))],si:=some [(0,1),(1,1)],zv:=some (.agg [.int .i64 0,.int .i64 0]),zok:=some 2,by':=some 16,un:=true,sq:=some [.i .i64,.i .i64]} .leaf) 70 { ti:=some (true,3),fi:=[some (0,(true,2)),some (2,(false,1))],si:=some [(0,2),(2,1)],zv:=some (.agg [.int .i64 0,.int .i64 0,.bool false]),zok:=some 3,by':=some 24,un:=true} .leaf) 71 { ti:=some (false,1),ei:=some (70,3),zv:=some (.nils),zok:=some 1,by':=some 24,sli:=true,ni:=true,un:=true} (.node .leaf 72 { ti:=some (false,1),ei:=some (71,1),zv:=some (.nils),zok:=some 1,by':=some 24,sli:=true,ni:=true,un:=true} .leaf))) 73 kX (.node (.node (.node (.node .leaf 74 kX .leaf) 75 dk .leaf) 76 Bi (.node .leaf 77 { ti:=some (false,1),ei:=some (116,8),zv:=some (.nils),zok:=some 1,by':=some 24,sli:=true,ni:=true,un:=true} .leaf)) 78 jp (.node (.node (.node .leaf 79 jp .leaf) 80 Bi .leaf) 81 Bi (.node .leaf 82 Bi .leaf)))) 83 Bi (.node (.node (.node (.node (.node .leaf 84 Bi .leaf) 85 Bi .leaf) 86 Bi (.node (.node .leaf 87 Bi .leaf) 88 Bi .leaf)) 89 Bi (.node (.node (.node .leaf 90 Bi .leaf) 91 Bi .leaf) 92 Bi (.node .leaf 93 Bi .leaf))) 94 Bi (.node (.node (.node (.node .leaf 95 Bi .leaf) 96 Bi .leaf) 97 Bi (.node .leaf 98 Bi .leaf)) 99 Bi (.node (.node (.node .leaf 100 dk .leaf) 101 kY .leaf) 102 kY (.node .leaf 103 jU .leaf)))))) 104 jU (.node (.node (.node (.node (.node (.node (.node .leaf 105 Bi .leaf) 106 Bi .leaf) 107 Bi (.node (.node .leaf 108 Bi .leaf) 109 Bi .leaf)) 110 Bi (.node (.node (.node .leaf 111 Bi .leaf) 112 Bi .leaf) 113 Bi (.node .leaf 115 Bi .leaf))) 116 { ti:=some (true,8),ai:=some (8,(false,1)),zv:=some (.agg [.int .i64 0,.int .i64 0,.int .i64 0,.int .i64 0,.int .i64 0,.int .i64 0,.int .i64 0,.int .i64 0]),zok:=some 8,by':=some 64,un:=true} (.node (.node (.node (.node .leaf 117 Bi .leaf) 118 Bi .leaf) 119 Bi (.node .leaf 120 Bi .leaf)) 121 Bi (.node (.node (.node .leaf 122 Bi .leaf) 123 Bi .leaf) 124 Bi (.node .leaf 125 Bi .leaf)))) 126 Bi (.node (.node (.node (.node (.node .leaf 127 Bi .leaf) 128 Bi .leaf) 129 Bi (.node (.node .leaf 130 dk .leaf) 131 Bi .leaf)) 132 Bi (.node (.node (.node .leaf 133 Bi .leaf) 134 Bi .leaf) 135 dk (.node .leaf 136 { ti:=some (false,1),ei:=some (5,1),zv:=some (.nils),zok:=some 1,by':=some 24,sli:=true,ni:=true,un:=true} .leaf))) 137 jV (.node (.node (.node (.node .leaf 138 jV .leaf) 142 Bi .leaf) 143 Bi (.node .leaf 144 Bi .leaf)) 145 Bi (.node (.node (.node .leaf 146 jo .leaf) 148 Bi .leaf) 149 Bi (.node .leaf 150 Bi .leaf))))) 151 Bi (.node (.node (.node (.node (.node (.node .leaf 152 Bi .leaf) 153 Bi .leaf) 154 Bi (.node (.node .leaf 155 Bi .leaf) 156 Bi .leaf)) 157 Bi (.node (.node (.node .leaf 158 dk .leaf) 159 { ti:=some (false,1),zv:=some (.int .u32 0),zok:=some 1,by':=some 4,ik:=some .u32,un:=true} .leaf) 161 Bi (.node .leaf 162 jo .leaf))) 164 Bi (.node (.node (.node (.node .leaf 165 Bi .leaf) 166 Bi .leaf) 167 Bi (.node .leaf 168 jn .leaf)) 170 Bi (.node (.node (.node .leaf 171 Bi .leaf) 172 Bi .leaf) 173 Bi (.node .leaf 174 Bi .leaf)))) 175 Bi (.node (.node (.node (.node (.node .leaf 176 Bi .leaf) 179 Bi .leaf) 180 Bi (.node (.node .leaf 181 jo .leaf) 182 Bi .leaf)) 183 Bi (.node (.node (.node .leaf 184 Bi .leaf) 185 dk .leaf) 186 Bi (.node .leaf 187 { ti:=some (true,24),ai:=some (24,(false,1)),zv:=some (.agg [.int .u8 0,.int .u8 0,.int .u8 0,.int .u8 0,.int .u8 0,.int .u8 0,.int .u8 0,.int .u8 0,.int .u8 0,.int .u8 0,.int .u8 0,.int .u8 0,.int .u8 0,.int .u8 0,.int .u8 0,.int .u8 0,.int .u8 0,.int .u8 0,.int .u8 0,.int .u8 0,.int .u8 0,.int .u8 0,.int .u8 0,.int .u8 0]),zok:=some 24,by':=some 24,un:=true} .leaf))) 188 Bi (.node (.node (.node (.node .leaf 190 Bi .leaf) 191 dk .leaf) 193 Bi (.node .leaf 194 Bi .leaf)) 195 { ti:=some (true,20),ai:=some (20,(false,1)),zv:=some (.agg [.int .u64 0,.int .u64 0,.int .u64 0,.int .u64 0,.int .u64 0,.int .u64 0,.int .u64 0,.int .u64 0,.int .u64 0,.int .u64 0,.int .u64 0,.int .u64 0,.int .u64 0,.int .u64 0,.int .u64 0,.int .u64 0,.int .u64 0,.int .u64 0,.int .u64 0,.int .u64 0]),zok:=some 20,by':=some 160,un:=true} (.node (.node (.node .leaf 196 { ti:=some (true,65),ai:=some (65,(false,1)),zv:=some (.agg [.int .u8 0,.int .u8 0,.int .u8 0,.int .u8 0,.int .u8 0,.int .u8 0,.int .u8 0,.int .u8 0,.int .u8 0,.int .u8 0,.int .u8 0,.int .u8 0,.int .u8 0,.int .u8 0,.int .u8 0,.int .u8 0,.int .u8 0,.int .u8 0,.int .u8 0,.int .u8 0,.int .u8 0,.int .u8 0,.int .u8 0,.int .u8 0,.int .u8 0,.int .u8 0,.int .u8 0,.int .u8 0,.int .u8 0,.int .u8 0,.int .u8 0,.int .u8 0,.int .u8 0,.int .u8 0,.int .u8 0,.int .u8 0,.int .u8 0,.int .u8 0,.int .u8 0,.int .u8 0,.int .u8 0,.int .u8 0,.int .u8 0,.int .u8 0,.int .u8 0,.int .u8 0,.int .u8 0,.int .u8 0,.int .u8 0,.int .u8 0,.int .u8 0,.int .u8 0,.int .u8 0,.int .u8 0,.int .u8 0,.int .u8 0,.int .u8 0,.int .u8 0,.int .u8 0,.int .u8 0,.int .u8 0,.int .u8 0,.int .u8 0,.int .u8 0,.int .u8 0]),zok:=some 65,by':=some 65,un:=true} .leaf) 197 { ti:=some (true,32),ai:=some (32,(false,1)),zv:=some (.agg [.int .u8 0,.int .u8 0,.int .u8 0,.int .u8 0,.int .u8 0,.int .u8 0,.int .u8 0,.int .u8 0,.int .u8 0,.int .u8 0,.int .u8 0,.int .u8 0,.int .u8 0,.int .u8 0,.int .u8 0,.int .u8 0,.int .u8 0,.int .u8 0,.int .u8 0,.int .u8 0,.int .u8 0,.int .u8 0,.int .u8 0,.int .u8 0,.int .u8 0,.int .u8 0,.int .u8 0,.int .u8 0,.int .u8 0,.int .u8 0,.int .u8 0,.int .u8 0]),zok:=some 32,by':=some 32,un:=true} .leaf) 198 { ti:=some (true,64),ai:=some (64,(false,1)),zv:=some (.agg [.int .u8 0,.int .u8 0,.int .u8 0,.int .u8 0,.int .u8 0,.int .u8 0,.int .u8 0,.int .u8 0,.int .u8 0,.int .u8 0,.int .u8 0,.int .u8 0,.int .u8 0,.int .u8 0,.int .u8 0,.int .u8 0,.int .u8 0,.int .u8 0,.int .u8 0,.int .u8 0,.int .u8 0,.int .u8 0,.int .u8 0,.int .u8 0,.int .u8 0,.int .u8 0,.int .u8 0,.int .u8 0,.int .u8 0,.int .u8 0,.int .u8 0,.int .u8 0,.int .u8 0,.int .u8 0,.int .u8 0,.int .u8 0,.int .u8 0,.int .u8 0,.int .u8 0,.int .u8 0,.int .u8 0,.int .u8 0,.int .u8 0,.int .u8 0,.int .u8 0,.int .u8 0,.int .u8 0,.int .u8 0,.int .u8 0,.int .u8 0,.int .u8 0,.int .u8 0,.int .u8 0,.int .u8 0,.int .u8 0,.int .u8 0,.int .u8 0,.int .u8 0,.int .u8 0,.int .u8 0,.int .u8 0,.int .u8 0,.int .u8 0,.int .u8 0]),zok:=some 64,by':=some 64,un:=true} (.node .leaf 204 Bi .leaf)))))))
set_option maxHeartbeats 16000000 in
theorem NX:TT.All Tryz.prog Tryz.tt:=by
 repeat' (first|exact trivial|exact kr (by kernel_rfl)|refine ⟨?_,?_⟩|refine ⟨?_,?_,?_,?_,?_,?_,?_,?_,?_,?_,?_,?_,?_,?_,?_,?_⟩)
theorem dl:Tryz.prog.cellsOf 3=1:=by kernel_rfl
theorem Kk:AB Tryz.prog 5=true:=by kernel_rfl
theorem GM:AB Tryz.prog 6=true:=by kernel_rfl
theorem Kl:AB Tryz.prog 7=true:=by kernel_rfl
theorem H9:AB Tryz.prog 9=true:=by kernel_rfl
theorem Iq:AB Tryz.prog 10=true:=by kernel_rfl
theorem Ir:AB Tryz.prog 11=true:=by kernel_rfl
theorem Gk:AB Tryz.prog 12=true:=by kernel_rfl
theorem Is:AB Tryz.prog 13=true:=by kernel_rfl
theorem Gl:AB Tryz.prog 14=true:=by kernel_rfl
theorem EE:AB Tryz.prog 15=true:=by kernel_rfl
theorem NY:AB Tryz.prog 16=true:=by kernel_rfl
theorem DX:AB Tryz.prog 17=true:=by kernel_rfl
theorem Gm:AB Tryz.prog 18=true:=by kernel_rfl
theorem EF:AB Tryz.prog 19=true:=by kernel_rfl
theorem UM:AB Tryz.prog 20=true:=by kernel_rfl
theorem Cd:AB Tryz.prog 21=true:=by kernel_rfl
theorem UN:AB Tryz.prog 22=true:=by kernel_rfl
theorem UO:AB Tryz.prog 23=true:=by kernel_rfl
theorem UP:AB Tryz.prog 24=true:=by kernel_rfl
theorem UQ:AB Tryz.prog 25=true:=by kernel_rfl
theorem UR:AB Tryz.prog 26=true:=by kernel_rfl
theorem US:AB Tryz.prog 27=true:=by kernel_rfl
theorem UT:AB Tryz.prog 28=true:=by kernel_rfl
theorem UU:AB Tryz.prog 29=true:=by kernel_rfl
theorem NZ:AB Tryz.prog 30=true:=by kernel_rfl
theorem Na:AB Tryz.prog 31=true:=by kernel_rfl
theorem Nb:AB Tryz.prog 33=true:=by kernel_rfl
theorem Nc:AB Tryz.prog 34=true:=by kernel_rfl
theorem Nd:AB Tryz.prog 35=true:=by kernel_rfl
theorem Nf:AB Tryz.prog 36=true:=by kernel_rfl
theorem UV:AB Tryz.prog 37=true:=by kernel_rfl
theorem Ng:AB Tryz.prog 39=true:=by kernel_rfl
theorem FW:AB Tryz.prog 40=true:=by kernel_rfl
theorem FX:AB Tryz.prog 41=true:=by kernel_rfl
theorem Nh:AB Tryz.prog 42=true:=by kernel_rfl
theorem Ni:AB Tryz.prog 43=true:=by kernel_rfl
theorem UW:AB Tryz.prog 44=true:=by kernel_rfl
theorem FY:AB Tryz.prog 45=true:=by kernel_rfl
theorem EG:AB Tryz.prog 46=true:=by kernel_rfl
theorem Gn:AB Tryz.prog 47=true:=by kernel_rfl
theorem UX:AB Tryz.prog 48=true:=by kernel_rfl
theorem It:AB Tryz.prog 49=true:=by kernel_rfl
theorem UY:AB Tryz.prog 50=true:=by kernel_rfl
theorem Gp:AB Tryz.prog 51=true:=by kernel_rfl
theorem EH:AB Tryz.prog 52=true:=by kernel_rfl
theorem UZ:AB Tryz.prog 53=true:=by kernel_rfl
theorem Iu:AB Tryz.prog 54=true:=by kernel_rfl
theorem Iv:AB Tryz.prog 55=true:=by kernel_rfl
theorem Iw:AB Tryz.prog 56=true:=by kernel_rfl
theorem EJ:AB Tryz.prog 57=true:=by kernel_rfl
theorem Gq:AB Tryz.prog 58=true:=by kernel_rfl
theorem Ua:AB Tryz.prog 59=true:=by kernel_rfl
theorem Ub:AB Tryz.prog 60=true:=by kernel_rfl
theorem Uc:AB Tryz.prog 61=true:=by kernel_rfl
theorem Ud:AB Tryz.prog 62=true:=by kernel_rfl
theorem Ue:AB Tryz.prog 63=true:=by kernel_rfl
theorem Uf:AB Tryz.prog 64=true:=by kernel_rfl
theorem Ug:AB Tryz.prog 65=true:=by kernel_rfl
theorem Uh:AB Tryz.prog 67=true:=by kernel_rfl
theorem Gr:AB Tryz.prog 69=true:=by kernel_rfl
theorem Ui:AB Tryz.prog 70=true:=by kernel_rfl
theorem Uj:AB Tryz.prog 71=true:=by kernel_rfl
theorem Uk:AB Tryz.prog 72=true:=by kernel_rfl
theorem Nj:AB Tryz.prog 73=true:=by kernel_rfl
theorem EK:AB Tryz.prog 74=true:=by kernel_rfl
theorem Nk:AB Tryz.prog 75=true:=by kernel_rfl
theorem FZ:AB Tryz.prog 76=true:=by kernel_rfl
theorem Nl:AB Tryz.prog 77=true:=by kernel_rfl
theorem Nm:AB Tryz.prog 78=true:=by kernel_rfl
theorem Ul:AB Tryz.prog 81=true:=by kernel_rfl
theorem Um:AB Tryz.prog 84=true:=by kernel_rfl
theorem Un:AB Tryz.prog 85=true:=by kernel_rfl
theorem Uo:AB Tryz.prog 86=true:=by kernel_rfl
theorem Uq:AB Tryz.prog 87=true:=by kernel_rfl
theorem Ur:AB Tryz.prog 88=true:=by kernel_rfl
theorem Aw:AB Tryz.prog 89=true:=by kernel_rfl
theorem Us:AB Tryz.prog 90=true:=by kernel_rfl
theorem C4:AB Tryz.prog 92=true:=by kernel_rfl
theorem Nn:AB Tryz.prog 94=true:=by kernel_rfl
theorem Np:AB Tryz.prog 95=true:=by kernel_rfl
theorem Ut:AB Tryz.prog 99=true:=by kernel_rfl
theorem Sj:AB Tryz.prog 100=true:=by kernel_rfl
theorem Sk:AB Tryz.prog 103=true:=by kernel_rfl
theorem K6:AB Tryz.prog 104=true:=by kernel_rfl
theorem K7:AB Tryz.prog 110=true:=by kernel_rfl
theorem Sl:AB Tryz.prog 114=true:=by kernel_rfl
theorem K8:AB Tryz.prog 124=true:=by kernel_rfl
theorem Ek:Tryz.prog.follows .mixedOrders=true:=by kernel_rfl
section
variable {C:Ctx} {σ:ES} {P:Program} {fop:Operand} {args:List Operand} {f:FuncId} {xs xs':List V} {r:V} {K:V→ES→Prop}
theorem A2 {p A B:Prop} (k:A) (h:p:=by first|assumption|omega):BrD p A B:=MA h k
theorem A1 {p A B:Prop} (k:B) (h:¬p:=by first|assumption|omega):BrD p A B:=iH h k
theorem AO {p A:Prop} (k:A) (h:p:=by first|assumption|omega):AskD p A:=EN h k
theorem AV {n:Int} {A B:Prop} (k:A) (h:-9223372036854775808≤n∧n≤9223372036854775807:=by omega):FitD .i64 n A B:=dt h k
theorem Ad {α:Type} {o:Option α} {A:α→Prop} {x:α} (k:A x) (h:o=some x:=by assumption):Nq o A:=HG h k
theorem Hk {α:Type} {f:α→V} {l:List α} {i:Nat} {x:α} {A:V→Prop} (k:A (f x)) (h:l[i]?=some x:=by assumption):Nq ((l.map f)[i]?) A:=cL h k
theorem AN (h:Fn1 P f xs (fun r'=>r'=r)) (hC:C.P=P) (hb:AB P f=true) (k:K r σ) (he:BO σ fop args=some (f,xs):=by kernel_rfl) (hn:Fa xs=true:=by kernel_rfl):CallN C fop args f xs K σ:=CX h hC hb he hn k
theorem Dt (h:Fn1 P f xs (fun r'=>r'=r)) (hC:C.P=P) (hb:AB P f=true) (k:K r σ) (he:BO σ fop args=some (f,xs):=by kernel_rfl) (hn:Fa xs=true:=by kernel_rfl):CallNQ C fop args f xs K σ:=Yy h hC hb he hn k
theorem EL (h:Xy C f xs' (fun r'=>r'=r)) (hC:C.P=P) (hb:AB P f=true) (e:xs=xs') (k:K r σ) (he:BO σ fop args=some (f,xs):=by kernel_rfl) (hn:Fa xs=true:=by kernel_rfl):CallN C fop args f xs K σ:=RT h hC hb e he hn k
theorem V9 (h:Xy C f xs' (fun r'=>r'=r)) (hC:C.P=P) (hb:AB P f=true) (e:xs=xs') (k:K r σ) (he:BO σ fop args=some (f,xs):=by kernel_rfl) (hn:Fa xs=true:=by kernel_rfl):CallNQ C fop args f xs K σ:=Wg h hC hb e he hn k
theorem Ab {T:TT} {β:Type} (S:β→ES) (P:β→Prop) (μ:β→Nat) (b0:β) {c:Code} {Q:Exit→ES→Prop} (hE:EOk T C) (h0:UpE C (At S b0) σ) (hp:P b0)
 (round:∀b,P b→Ea T C c (fun e σ'=>match e with
   | .normal=>UpE C (Wf S P μ b) σ'
   | e=>Q e σ') (S b)) (hc:Bl c=true:=by kernel_rfl):LoopE T C c Q σ:=iL S P μ b0 hE hc h0 hp round
end
theorem Ax {f:FuncId} {fn:Func} {c:Code} {args:List V} {R:V→Prop} (hf:Tryz.prog.funcs[f]?=some fn) (h:∀C:Ctx,C.P=Tryz.prog→EOk Tryz.tt C→Ea Tryz.tt C c (cK Tryz.tt C fn R) ⟨fn.ntmps,HT 0 args,[]⟩) (hb:fn.body=some c:=by exact rfl) (hc:Bl c=true:=by kernel_rfl) (hn:args.length≤fn.ntmps:=by exact Nat.le_of_ble_eq_true (by kernel_rfl)):Fn1 Tryz.prog f args R:=jt hf hb NX Ek hc hn h
theorem GN {G:World→Prop} {f:FuncId} {fn:Func} {c:Code} {args:List V} {R:V→Prop} (hf:Tryz.prog.funcs[f]?=some fn) (h:∀C:Ctx,C.P=Tryz.prog→C.E=(fun _=>False)→G C.W0→EOk Tryz.tt C→Ea Tryz.tt C c (cK Tryz.tt C fn R) ⟨fn.ntmps,HT 0 args,[]⟩) (hb:fn.body=some c:=by exact rfl) (hc:Bl c=true:=by kernel_rfl) (hn:args.length≤fn.ntmps:=by exact Nat.le_of_ble_eq_true (by kernel_rfl)):Fn1G Tryz.prog G f args R:=d4 hf hb NX Ek hc hn h
theorem IJ {f:FuncId} {fn:Func} {c:Code} {args:List V} {objs:List Ob} {fixed:List Nat} {R:V→List Ob→Prop} (hf:Tryz.prog.funcs[f]?=some fn) (h:∀(C:Ctx) (vs:List Value),C.P=Tryz.prog→EOk Tryz.tt C→Ea Tryz.tt C c (Y0 Tryz.tt C fn args objs vs fixed R) ⟨fn.ntmps,HT 0 args,objs.map some++[some (.hid vs args)]⟩) (hb:fn.body=some c:=by exact rfl) (hc:Bl c=true:=by kernel_rfl) (hn:args.length≤fn.ntmps:=by exact Nat.le_of_ble_eq_true (by kernel_rfl)):HFn Tryz.prog f args objs fixed R:=ju hf hb NX Ek hc hn h
end
section
open Go.RowKit
def AL (l:List Int):V:=.lst (l.map (V.int .i64))
def GH {α:Type} (p:α→Bool) (l:List α):Int:=match l.findIdx? p with|some i=>i|none=>-1
theorem D7 {α:Type} {p:α→Bool} {l:List α} {k:Nat} {x:α} (hx:l[k]?=some x) (hp:p x=true) (hj:∀j < k,∀x,l[j]?=some x→p x=false):GH p l=k:=by
 have:l.findIdx? p=some k:=by
  rw [List.findIdx?_eq_some_iff_getElem]
  obtain ⟨hlt,rfl⟩:=List.getElem?_eq_some_iff.1 hx
  exact ⟨hlt,hp,fun j hjk=>by simp [hj j hjk _ (List.getElem?_eq_getElem (by omega))]⟩
 unfold GH
 rw [this]
theorem DW {α:Type} {p:α→Bool} {l:List α} (h:∀x∈l,p x=false):GH p l= -1:=by
 have:l.findIdx? p=none:=by rw [List.findIdx?_eq_none_iff];exact h
 unfold GH
 rw [this]
theorem D8 {α:Type} (p:α→Bool) (l:List α):decide (0≤GH p l)=l.any p:=by
 unfold GH
 cases h:l.findIdx? p with
 | none=>
   have:=List.findIdx?_eq_none_iff.1 h
   have h2:l.any p=false:=by rw [List.any_eq_false];intro x hx;simp [this x hx]
   rw [h2];rfl
 | some i=>
   obtain ⟨hlt,hp,_⟩:=List.findIdx?_eq_some_iff_getElem.1 h
   have h2:l.any p=true:=by rw [List.any_eq_true];exact ⟨_,List.getElem_mem hlt,hp⟩
   rw [h2]
   exact decide_eq_true (by show (0:Int)≤(i:Int);omega)
section
variable (id:Nat) (els:List V)
theorem cq (s:List UInt8):(V.str s).frz id els= .str s:=by simp [V.frz]
theorem Zb (i off n:Nat):(V.sl i off n).frz id els=if i=id then (if off+n≤els.length then .lst ((els.drop off).take n) else .any) else .sl i off n:=by simp [V.frz]
theorem Zc:Ai id els []=[]:=by simp [Ai]
theorem Ot (x:V) (l:List V):Ai id els (x::l)=x.frz id els::Ai id els l:=by simp [Ai]
end
theorem A4 {C:Ctx} {K:ES→Prop} (id t:Nat) (ks:List Nat) {z m n:Nat} {els:List V} {u:List (Nat×V)} {h:List (Option Ob)} (hr:h[id]?=some (some (.row z els))) (hnr:BT els) (hs:AU u t= .sl id 0 m) (hm:m=els.length)
 (hf:Fw id els (Az ks u)=Az ks u) (hk:UpE C K ⟨n,(t,.lst els)::Az ks u,(CG id els h).set id none⟩):UpE C K ⟨n,u,h⟩:=by
 refine Bm (t::ks) (AK id hr hnr ?_)
 have e:Fw id els (Az (t::ks) u)=(t,.lst els)::Az ks u:=by
  rw [←hf]
  simp only [Az,Fw,List.map_cons,hs,Zb,if_true]
  rw [if_pos (by omega),List.drop_zero,List.take_of_length_le (by omega)]
 rw [e]
 exact hk
end
end Go.Proofs.YtkaiffheakalmaaGreatDoor
