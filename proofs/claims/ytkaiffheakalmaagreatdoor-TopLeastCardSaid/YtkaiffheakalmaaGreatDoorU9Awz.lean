/- Copied, stripped. No conditions. -/
import Derived.Test.YtkaiffheakalmaaGreatDoorU9Awy
set_option linter.unusedSimpArgs false
set_option linter.unusedVariables false
set_option maxRecDepth 100000
namespace Go.Proofs.YtkaiffheakalmaaGreatDoor
open Go.RowKit
def Rb (i j k:Nat):Nat:=if k=i then j else k
mutual
def V.mv (i j:Nat):V→V
  | .sl k o n=>.sl (Rb i j k) o n
  | .ptr k a b=>.ptr (Rb i j k) a b
  | .it k=>.it (Rb i j k)
  | .agg l=>.agg (Hn i j l)
  | .fn f l=>.fn f (Hn i j l)
  | .tup l=>.tup (Hn i j l)
  | x=>x
def Hn (i j:Nat):List V→List V
  | []=>[]
  | x::l=>x.mv i j::Hn i j l
end
def Ob.mv (i j:Nat):Ob→Ob
  | .row z l=>.row z (Hn i j l)
  | .iter s p=>.iter s p
  | .mp es=>.mp es
  | .hid vs l=>.hid vs (Hn i j l)
  | .bld T y=>.bld T (y.map fun y=>(Rb i j y.1,y.2))
  | .buf U s=>.buf U s
def NS (i j:Nat):List (Option Ob)→List (Option Ob)
  | []=>[]
  | none::r=>none::NS i j r
  | some o::r=>some (o.mv i j)::NS i j r
theorem Bo (a b:Nat):∀l,(Hn a b l).length=l.length
  | []=>by simp [Hn]
  | x::l=>by simp [Hn,Bo a b l]
theorem C2 (a b:Nat):∀(l:List V) (i:Nat) (c:V),(Hn a b l)[i]?=some c→∃x,l[i]?=some x∧c=x.mv a b
  | [],i,c,h=>by simp [Hn] at h
  | x::l,0,c,h=>by simp [Hn] at h;exact ⟨x,rfl,h.symm⟩
  | x::l,i+1,c,h=>by
    simp only [Hn,List.getElem?_cons_succ] at h
    obtain ⟨y,hy,e⟩:=C2 a b l i c h
    exact ⟨y,by simpa using hy,e⟩
theorem OJ (a b:Nat):∀(h:List (Option Ob)) (k:Nat) (o:Ob),(NS a b h)[k]?=some (some o)→∃o',h[k]?=some (some o')∧o=o'.mv a b
  | [],k,o,h=>by simp [NS] at h
  | none::r,0,o,h=>by simp [NS] at h
  | some x::r,0,o,h=>by simp [NS] at h;exact ⟨x,rfl,h.symm⟩
  | none::r,k+1,o,h=>by simp only [NS,List.getElem?_cons_succ] at h;simpa using OJ a b r k o h
  | some x::r,k+1,o,h=>by simp only [NS,List.getElem?_cons_succ] at h;simpa using OJ a b r k o h
theorem IU (a b:Nat):∀(h:List (Option Ob)) (k:Nat) (o:Ob),h[k]?=some (some o)→(NS a b h)[k]?=some (some (o.mv a b))
  | [],k,o,h=>by simp at h
  | none::r,0,o,h=>by simp at h
  | some x::r,0,o,h=>by simp at h;subst h;simp [NS]
  | none::r,k+1,o,h=>by simp only [NS,List.getElem?_cons_succ] at h ⊢;exact IU a b r k o h
  | some x::r,k+1,o,h=>by simp only [NS,List.getElem?_cons_succ] at h ⊢;exact IU a b r k o h
theorem Ho (a b:Nat):∀h,(NS a b h).length=h.length
  | []=>rfl
  | none::r=>by simp [NS,Ho a b r]
  | some _::r=>by simp [NS,Ho a b r]
theorem Pm (a b:Nat) (x:V):(x.mv a b).cells=Hn a b x.cells:=by cases x<;>simp [V.mv,V.cells,Hn]
theorem Pr.mv {w:World} {I:Nat→Prop} {v:Value} {x:V} (a b:Nat) (h:Pr w I v x):Pr w I v (x.mv a b):=by
  induction h with
  | any v=>exact .any v
  | bool b=>exact .bool b
  | int k n=>exact .int k n
  | str s h=>exact .str s h
  | nils=>exact .nils
  | lnil a cap=>exact .lnil a cap
  | lst b off cap z l u h1 h2 h3 h4 h5 h6 h7 ih=>exact .lst b off cap z l u h1 h2 h3 h4 h5 h6 h7
  | agg vs l h1 h2 h3 ih=>
    simp only [V.mv]
    refine .agg vs _ (by rw [Bo,h1]) h2 ?_
    intro i v c hv hc
    obtain ⟨x,hx,rfl⟩:=C2 a b l i c hc
    exact ih i v x hv hx
  | rp b off l u h1 h2 h3 h4 ih=>exact .rp b off l u h1 h2 h3 h4
  | fn f vs l h1 h2 ih=>
    simp only [V.mv]
    refine .fn f vs _ (by rw [Bo,h1]) ?_
    intro i v c hv hc
    obtain ⟨x,hx,rfl⟩:=C2 a b l i c hc
    exact ih i v x hv hx
  | tup vs l h1 h2 ih=>
    simp only [V.mv]
    refine .tup vs _ (by rw [Bo,h1]) ?_
    intro i v c hv hc
    obtain ⟨x,hx,rfl⟩:=C2 a b l i c hc
    exact ih i v x hv hx
  | nilp=>exact .nilp
  | nili=>exact .nili
  | ifi t k n=>exact .ifi t k n
  | ifx t v=>exact .ifx t v
  | gp g=>exact .gp g
  | gsl g n h=>exact .gsl g n h
theorem Rep.mv {w:World} {I:Nat→Prop} {bl bl':Nat→Option BI} {a b:Nat} (hb:∀k i,bl k=some i→bl' (Rb a b k)=some i) {v:Value} {x:V} (h:Rep w I bl v x):Rep w I bl' v (x.mv a b):=by
  induction h with
  | pure v x h=>exact .pure v _ (h.mv a b)
  | nsl k base z h=>exact .nsl _ base z (hb k _ h)
  | sl k off len cap b base z n e h1 h2 h3 h4 h5=>exact .sl _ off len cap b base z n e (hb k _ h1) h2 h3 h4 h5
  | esl k off a i h=>exact .esl _ off a i (hb k _ h)
  | ptr k i j b base z n e h1 h2=>exact .ptr _ i j b base z n e (hb k _ h1) h2
  | it k b base z h1=>exact .it _ b base z (hb k _ h1)
  | agg vs l h1 h2 h3 ih=>
    simp only [V.mv]
    refine .agg vs _ (by rw [Bo,h1]) h2 ?_
    intro i v c hv hc
    obtain ⟨x,hx,rfl⟩:=C2 a b l i c hc
    exact ih i v x hv hx
  | fn f vs l h1 h2 ih=>
    simp only [V.mv]
    refine .fn f vs _ (by rw [Bo,h1]) ?_
    intro i v c hv hc
    obtain ⟨x,hx,rfl⟩:=C2 a b l i c hc
    exact ih i v x hv hx
  | tup vs l h1 h2 ih=>
    simp only [V.mv]
    refine .tup vs _ (by rw [Bo,h1]) ?_
    intro i v c hv hc
    obtain ⟨x,hx,rfl⟩:=C2 a b l i c hc
    exact ih i v x hv hx
theorem ObRep.mv {w:World} {I:Nat→Prop} {bl bl':Nat→Option BI} {a b:Nat} (hb:∀k i,bl k=some i→bl' (Rb a b k)=some i) {k:Nat} {o:Ob} (hh:bl k=none→bl' (Rb a b k)=none) (h:ObRep w I bl k o):ObRep w I bl' (Rb a b k) (o.mv a b):=by
  cases o with
  | row z l=>
    obtain ⟨bi,h1,h2,h3,h4⟩:=h
    refine ⟨bi,hb k _ h1,h2,fun i x hx=>?_,?_⟩
    . obtain ⟨y,hy,rfl⟩:=C2 a b l i x hx
      rw [Pm,Bo];exact h3 i y hy
    . cases hbl:bi.blk with
      | none=>simp only [hbl] at h4 ⊢;subst h4;rfl
      | some blk=>
        simp only [hbl] at h4 ⊢
        obtain ⟨cur,e,hg,hsz,hc⟩:=h4
        refine ⟨cur,e,hg,by rw [Bo];exact hsz,?_⟩
        intro i x j c hx hxc
        obtain ⟨y,hy,rfl⟩:=C2 a b l i x hx
        rw [Pm] at hxc
        obtain ⟨c',hc',rfl⟩:=C2 a b _ j c hxc
        obtain ⟨u,hu,h1',hr⟩:=hc i y j c' hy hc'
        exact ⟨u,hu,h1',hr.mv hb⟩
  | iter s pos=>
    obtain ⟨b',base,z,t,h1,h2,h3,h4⟩:=h
    exact ⟨b',base,z,t,hb k _ h1,h2,h3,h4⟩
  | mp es=>
    obtain ⟨b',base,z,t,h1,h2,h3,h4⟩:=h
    exact ⟨b',base,z,t,hb k _ h1,h2,h3,h4⟩
  | bld T y=>
    obtain ⟨b',p,v,h1,h2,h3,h4,h5⟩:=h
    refine ⟨b',p,v,hb k _ h1,h2,h3,h4,?_⟩
    have h6:=h5.mv hb
    cases y with
    | none=>exact .pure _ _ (.any _)
    | some y=>obtain ⟨q,n⟩:=y;cases n<;>exact h6
  | buf U s=>
    obtain ⟨blk,h1,h2⟩:=h
    exact ⟨blk,hb k _ h1,h2⟩
  | hid vs l=>exact ⟨hh h.1,by simp [Bo,h.2.1],fun i v x hv hx=>by
      obtain ⟨y,hy,rfl⟩:=C2 a b l i x hx
      exact (h.2.2 i v y hv hy).mv hb⟩
def Dd (a b:Nat) (h:List (Option Ob)):List (Option Ob):=((NS a b h).set b ((NS a b h).getD a none)).set a none
def St.mv (a b:Nat) (σ:St):St:={ env:=Hn a b σ.env,heap:=Dd a b σ.heap}
theorem NT {a b:Nat} {h:List (Option Ob)} {id:Nat} (h1:id≠a) (h2:id≠b):(Dd a b h)[id]?=(NS a b h)[id]?:=by
  unfold Dd
  rw [List.getElem?_set_ne (Ne.symm h1),List.getElem?_set_ne (Ne.symm h2)]
theorem NU {a b:Nat} {h:List (Option Ob)} {o:Ob} (hab:a≠b) (hb:b < h.length) (ha:h[a]?=some (some o)):(Dd a b h)[b]?=some (some (o.mv a b)):=by
  unfold Dd
  rw [List.getElem?_set_ne hab,List.getElem?_set_self (by rw [Ho];exact hb)]
  simp [List.getD,IU a b h a o ha]
theorem Pn {a b:Nat} {h:List (Option Ob)} {o:Ob}:(Dd a b h)[a]?≠some (some o):=by
  unfold Dd
  rw [List.getElem?_set]
  simp only [if_true]
  split<;>simp
theorem RP.mv {C:Ctx} {σ:St} {act:Act} {w:World} {I:Nat→Prop} {bl:Nat→Option BI} (hp:RP C σ act w I bl) {a b:Nat} {o:Ob} (hab:a≠b) (ha:σ.heap[a]?=some (some o)) (hn:σ.heap[b]?=some none):Rel C (σ.mv a b) act w:=by
  let bl':Nat→Option BI:=fun k=>if k=b then bl a else if k=a then none else bl k
  have hlt:b < σ.heap.length:=(List.getElem?_eq_some_iff.1 hn).1
  have hbb:∀i,bl b=some i→False:=fun i h=>by
    obtain ⟨o',h'⟩:=hp.heap.live b i h
    rw [hn] at h'
    simp at h'
  have hbn:bl b=none:=by
    cases h:bl b with
    | none=>rfl
    | some i=>exact (hbb i h).elim
  have hb:∀k i,bl k=some i→bl' (Rb a b k)=some i:=by
    intro k i h
    unfold Rb
    split
    . rename_i e;subst e;simp only [bl',if_true];exact h
    . rename_i e
      have e2:k≠b:=fun e2=>hbb i (e2▸h)
      simp only [bl',if_neg e2,if_neg e];exact h
  have hinv:∀k i,bl' k=some i→k≠a∧bl (if k=b then a else k)=some i:=by
    intro k i h
    by_cases e:k=b
    . subst e
      simp only [bl',if_true] at h ⊢
      exact ⟨Ne.symm hab,h⟩
    . by_cases e2:k=a
      . subst e2;simp [bl',e] at h
      . simp only [bl',if_neg e,if_neg e2] at h ⊢
        exact ⟨e2,h⟩
  refine RP.rel (I:=I) (bl:=bl') ⟨hp.defers,⟨by simp only [St.mv,Bo];exact hp.env.1,fun i v x hv hx=>?_⟩,⟨?_,?_,?_,?_,hp.heap.imm,hp.heap.kept⟩⟩
  . obtain ⟨y,hy,rfl⟩:=C2 a b σ.env i x hx
    exact (hp.env.2 i v y hv hy).mv hb
  . intro k x hx
    simp only [St.mv] at hx
    by_cases e:k=a
    . subst e;exact (Pn hx).elim
    . by_cases e2:k=b
      . subst e2
        rw [NU hab hlt ha] at hx
        simp only [Option.some.injEq] at hx
        subst hx
        have:=(hp.heap.obj a o ha).mv (bl':=bl') hb (fun h=>by simp only [Rb,if_true,bl'];exact h)
        simpa [Rb] using this
      . rw [NT e e2] at hx
        obtain ⟨o',h',rfl⟩:=OJ a b _ k x hx
        have:=(hp.heap.obj k o' h').mv (bl':=bl') hb (fun h=>by simp only [Rb,if_neg e,bl',if_neg e2];exact h)
        simpa [Rb,e] using this
  . intro k i h
    obtain ⟨e,h'⟩:=hinv k i h
    obtain ⟨o',ho'⟩:=hp.heap.live _ i h'
    by_cases e2:k=b
    . subst e2
      exact ⟨_,NU hab hlt ha⟩
    . rw [if_neg e2] at ho'
      exact ⟨_,by simp only [St.mv];rw [NT e e2];exact IU a b _ k o' ho'⟩
  . intro k k' i i' blk h1 h2 h3 h4
    obtain ⟨e1,g1⟩:=hinv k i h1
    obtain ⟨e2,g2⟩:=hinv k' i' h2
    have:=hp.heap.apart _ _ i i' blk g1 g2 h3 h4
    split at this<;>split at this
    . simp_all
    . exact absurd this.symm e2
    . exact absurd this e1
    . exact this
  . intro k i blk h1 h2
    exact hp.heap.own _ i blk (hinv k i h1).2 h2
theorem gV {C:Ctx} {T:St→Prop} {σ:St} {a b:Nat} {o:Ob} (hab:a≠b) (ha:σ.heap[a]?=some (some o)) (hn:σ.heap[b]?=some none) (h:Up C T (σ.mv a b)):Up C T σ:=
  BQ (fun _ _ hr=>let ⟨_,_,hp⟩:=hr.parts;hp.mv hab ha hn) h
def dR (a b:Nat) (u:List (Nat×V)):List (Nat×V):=u.map fun p=>(p.1,p.2.mv a b)
theorem dS (a b:Nat):V.any.mv a b= .any:=by simp [V.mv]
theorem Po (a b t:Nat):∀u:List (Nat×V),Al (dR a b u) t=(Al u t).mv a b
  | []=>by simp [dR,Al,dS]
  | (d,x)::u=>by
    have:=Po a b t u
    unfold dR at this ⊢
    simp only [List.map_cons,Al]
    split
    . rfl
    . exact this
theorem LY (a b:Nat):∀l,Hn a b l=l.map (V.mv a b)
  | []=>by simp [Hn]
  | x::l=>by simp [Hn,LY a b l]
theorem dU (n a b:Nat) (u:List (Nat×V)) (h h':List (Option Ob)):Hn a b (ES.env ⟨n,u,h⟩)=ES.env ⟨n,dR a b u,h'⟩:=by
  rw [LY]
  unfold ES.env
  rw [List.map_map]
  exact List.map_congr_left fun t _=>(Po a b t u).symm
theorem EO {C:Ctx} {K:ES→Prop} (a b:Nat) {n:Nat} {o:Ob} {u:List (Nat×V)} {h:List (Option Ob)} (hab:a≠b) (ha:h[a]?=some (some o)) (hn:h[b]?=some none) (hk:UpE C K ⟨n,dR a b u,Dd a b h⟩):UpE C K ⟨n,u,h⟩:=by
  refine ⟨gV (σ:=(ES.mk n u h).st) (a:=a) (b:=b) (o:=o) hab ha hn ?_⟩
  show Up C (Ks K) { env:=Hn a b (ES.env ⟨n,u,h⟩),heap:=Dd a b h}
  rw [dU n a b u h (Dd a b h)]
  exact hk.out
end Go.Proofs.YtkaiffheakalmaaGreatDoor
