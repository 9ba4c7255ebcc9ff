/- Joined. No conditions. -/
import Derived.Test.YtkaiffheakalmaaGreatDoorJ9av
set_option linter.unusedSimpArgs false
set_option linter.unusedVariables false
set_option maxRecDepth 100000
namespace Go.Proofs.YtkaiffheakalmaaGreatDoor
open Go.RowKit
structure OkS (S:Ps):Prop where
 len:S.F.length=S.T.length
 bd:BdF S.F.length S.F
structure OkP (S:Ps) (p:Pt) (S':Ps):Prop where
 ok:OkS S'
 le:S.T.length≤S'.T.length
 fi:∀x∈p.first,0≤x∧x < (S'.F.length:Int)
 la:∀x∈p.last,0≤x∧x < (S'.F.length:Int)
 fl:p.first.length+S.T.length≤S'.T.length
 ll:p.last.length+S.T.length≤S'.T.length
theorem BdF.mono {m n:Nat} {F:List (List Int)} (h:BdF m F) (hmn:m≤n):BdF n F:=fun r hr=>⟨(h r hr).1,fun x hx=>by have:=(h r hr).2 x hx;omega⟩
theorem OkS.link {S:Ps} (h:OkS S) {fr to:List Int} (ht:∀x∈to,0≤x∧x < (S.F.length:Int)):OkS ⟨S.T,Au fr to S.F⟩:=
 ⟨by show (Au fr to S.F).length=S.T.length;rw [CS,h.len],by show BdF (Au fr to S.F).length _;rw [CS];exact NL ht h.bd⟩
theorem OkP.join {S0 S1 S2:Ps} {out q:Pt} (h1:OkP S0 out S1) (h2:OkP S1 q S2) (k:Int):OkP S0 (Gx k out q S2).1 (Gx k out q S2).2:=by
 have hl:=h1.ok.len
 have hl2:=h2.ok.len
 have hle:=h2.le
 have l1:=h1.le
 have f1:=h1.fl
 have f2:=h2.fl
 have g1:=h1.ll
 have g2:=h2.ll
 have hfo:∀x∈out.first,0≤x∧x < (S2.F.length:Int):=fun x hx=>by have:=h1.fi x hx;omega
 have hlo:∀x∈out.last,0≤x∧x < (S2.F.length:Int):=fun x hx=>by have:=h1.la x hx;omega
 unfold Gx
 split
 ·refine ⟨h2.ok,(show S0.T.length≤S2.T.length by omega),fun x hx=>?_,fun x hx=>?_,?_,?_⟩
  ·rcases List.mem_append.1 hx with h|h
   ·exact hfo x h
   ·exact h2.fi x h
  ·rcases List.mem_append.1 hx with h|h
   ·exact hlo x h
   ·exact h2.la x h
  ·simp only [List.length_append];omega
  ·simp only [List.length_append];omega
 ·refine ⟨h2.ok.link h2.fi,by show S0.T.length≤S2.T.length;omega,fun x hx=>?_,fun x hx=>?_,?_,?_⟩
  ·show 0≤x∧x < ((Au out.last q.first S2.F).length:Int)
   rw [CS]
   simp only at hx
   split at hx
   ·rcases List.mem_append.1 hx with h|h
    ·exact hfo x h
    ·exact h2.fi x h
   ·exact hfo x hx
  ·show 0≤x∧x < ((Au out.last q.first S2.F).length:Int)
   rw [CS]
   rcases List.mem_append.1 hx with h|h
   ·split at h
    ·exact hlo x h
    ·cases h
   ·exact h2.la x h
  ·simp only
   split
   ·rw [List.length_append];omega
   ·omega
  ·simp only [List.length_append]
   split
   ·omega
   ·simp;omega
theorem SC:∀(N:Nat),(∀(x:Ex) (S:Ps),El x≤N→OkS S→OkP S (BY x S).1 (BY x S).2)∧(∀(k:Int) (ps:List Ex) (S0 S:Ps) (out:Pt),Ay ps≤N→OkP S0 out S→OkP S0 (DA k ps out S).1 (DA k ps out S).2):=by
 intro N
 induction N using Nat.strongRecOn with
 | _ N ih=>
   have hE:∀(x:Ex) (S:Ps),El x≤N→OkS S→OkP S (BY x S).1 (BY x S).2:=by
    rintro ⟨k,t,ps⟩ S hx hS
    rw [CQ] at hx
    rw [BY]
    split
    ·have hl:=hS.len
     refine ⟨⟨?_,?_⟩,?_,fun x hx=>?_,fun x hx=>?_,?_,?_⟩
     ·simp [hl]
     ·show BdF (S.F++[[]]).length (S.F++[[]])
      intro r hr
      rcases List.mem_append.1 hr with h|h
      ·exact hS.bd.mono (by simp) r h
      ·rw [List.mem_singleton] at h;subst h;exact ⟨List.nodup_nil,fun x hx=>by cases hx⟩
     ·simp
     ·simp at hx ⊢;omega
     ·simp at hx ⊢;omega
     ·simp;omega
     ·simp;omega
    ·have h0:OkP S ⟨[],[],decide (k=2)⟩ S:=⟨hS,Nat.le_refl _,fun x hx=>(List.not_mem_nil hx).elim,fun x hx=>(List.not_mem_nil hx).elim,(by simp),(by simp)⟩
     have h1:=(ih (Ay ps) (by omega)).2 k ps S S _ (Nat.le_refl _) h0
     unfold QT
     generalize DA k ps ⟨[],[],decide (k=2)⟩ S=r at h1
     obtain ⟨p,S'⟩:=r
     simp only at h1 ⊢
     split
     ·refine ⟨h1.ok.link h1.fi,h1.le,fun x hx=>?_,fun x hx=>?_,h1.fl,h1.ll⟩
      ·show 0≤x∧x < ((Au p.last p.first S'.F).length:Int)
       rw [CS];exact h1.fi x hx
      ·show 0≤x∧x < ((Au p.last p.first S'.F).length:Int)
       rw [CS];exact h1.la x hx
     ·exact ⟨h1.ok,h1.le,h1.fi,h1.la,h1.fl,h1.ll⟩
   refine ⟨hE,?_⟩
   intro k ps S0 S out hps h
   induction ps generalizing S out with
   | nil=>rw [DA];exact h
   | cons y ps ih2=>
     rw [DA]
     have hsz:Ay (y::ps)=El y+Ay ps:=by rw [Ay]
     have hy:=hE y S (by omega) h.ok
     exact ih2 _ _ (by omega) (h.join hy k)
theorem Z2 (x:Ex) {S:Ps} (h:OkS S):OkP S (BY x S).1 (BY x S).2:=(SC _).1 x S (Nat.le_refl _) h
theorem Vp (k:Int) (ps:List Ex) {S0 S:Ps} {out:Pt} (h:OkP S0 out S):OkP S0 (DA k ps out S).1 (DA k ps out S).2:=(SC _).2 k ps S0 S out (Nat.le_refl _) h
theorem KV {k:Int}:∀{ps:List Ex} {j:Nat} {y:Ex} (out:Pt) (S:Ps),ps[j]?=some y→
 DA k (ps.take (j+1)) out S=Gx k (DA k (ps.take j) out S).1 (BY y (DA k (ps.take j) out S).2).1 (BY y (DA k (ps.take j) out S).2).2
 | [],j,y,out,S,h=>by simp at h
 | z::ps,0,y,out,S,h=>by
   simp at h;subst h
   simp [DA]
 | z::ps,j+1,y,out,S,h=>by
   simp only [List.take_succ_cons]
   rw [DA,DA]
   exact KV _ _ (by simpa using h)
def d7 (k:Int):UInt8:=if k=4 then 42 else if k=5 then 43 else 63
def VW (x:Ex) (b:Int):Bool:=decide ((x.kind=3∧0 < b)∨(x.kind=2∧2≤b))
mutual
def Pw:Ex→List UInt8
 | .mk k t ps=>if k=1 then [UInt8.ofNat (97+t.toNat)] else if k=2 then Lib.join (Tf 1 ps) [] else if k=3 then Lib.join (Tf 0 ps) [124] else (Tf 2 ps).headD []++[d7 k]
def Tf (b:Int):List Ex→List (List UInt8)
 | []=>[]
 | x::xs=>(if VW x b=true then 40::(Pw x++[41]) else Pw x)::Tf b xs
end
def KP (b:Int) (x:Ex):List UInt8:=if VW x b=true then 40::(Pw x++[41]) else Pw x
theorem HY (b:Int):∀ps,Tf b ps=ps.map (KP b)
 | []=>by simp [Tf]
 | x::xs=>by simp [Tf,HY b xs,KP]
theorem ce (t:Int) (ps:List Ex):Pw (.mk 1 t ps)=[UInt8.ofNat (97+t.toNat)]:=by rw [Pw,if_pos rfl]
theorem cj (t:Int) (ps:List Ex):Pw (.mk 2 t ps)=Lib.join (ps.map (KP 1)) []:=by rw [Pw,if_neg (by decide),if_pos rfl,HY]
theorem cl (t:Int) (ps:List Ex):Pw (.mk 3 t ps)=Lib.join (ps.map (KP 0)) [124]:=by rw [Pw,if_neg (by decide),if_neg (by decide),if_pos rfl,HY]
theorem ZS {k:Int} (h:4≤k) (t:Int) (ps:List Ex):Pw (.mk k t ps)=(ps.map (KP 2)).headD []++[d7 k]:=by rw [Pw,if_neg (by omega),if_neg (by omega),if_neg (by omega),HY]
theorem Rl (xs:List (List UInt8)) (sep:List UInt8):(Lib.join xs sep).length≤(xs.map fun x=>x.length+sep.length).sum:=by
 induction xs with
 | nil=>simp [Lib.join,List.intercalate]
 | cons x xs ih=>
   cases xs with
   | nil=>simp [Lib.join,List.intercalate]
   | cons x2 xs=>
     simp only [Lib.join,List.intercalate,List.intersperse,List.flatten_cons,List.length_append,List.map_cons,List.sum_cons] at ih ⊢
     omega
theorem Tg {α:Type} (f g:α→Nat):∀l:List α,(∀x∈l,f x≤g x)→(l.map f).sum≤(l.map g).sum
 | [],_=>by simp
 | x::l,h=>by
   have:=Tg f g l (fun y hy=>h y (by simp [hy]))
   have:=h x (by simp)
   simp;omega
theorem Px {α:Type} (f:α→Nat):∀l:List α,(l.map fun x=>2*f x).sum=2*(l.map f).sum
 | []=>by simp
 | x::l=>by have:=Px f l;simp;omega
theorem VX (b:Int) (x:Ex):(KP b x).length≤(Pw x).length+2:=by
 unfold KP
 split
 ·simp
 ·omega
theorem Py:∀(N:Nat) (x:Ex),El x≤N→(Pw x).length+3≤2*El x:=by
 intro N
 induction N using Nat.strongRecOn with
 | _ N ih=>
   intro x hx
   cases x with
   | mk k t ps=>
     rw [CQ] at hx ⊢
     have hp:∀(b:Int),∀p∈ps,(KP b p).length+1≤2*El p:=fun b p hp=>by
      have:=FM hp
      have:=ih (El p) (by omega) p (Nat.le_refl _)
      have:=VX b p
      omega
     have hj:∀(b:Int) (sep:List UInt8),sep.length≤1→(Lib.join (ps.map (KP b)) sep).length≤2*Ay ps:=fun b sep hs=>by
      have h1:=Rl (ps.map (KP b)) sep
      rw [List.map_map] at h1
      have h2:=Tg ((fun x:List UInt8=>x.length+sep.length)∘KP b) (fun p=>2*El p) ps (fun p hp'=>by have:=hp b p hp';simp only [Function.comp];omega)
      rw [Px,←Bp] at h2
      omega
     rw [Pw]
     simp only [HY]
     split
     ·simp;omega
     ·split
      ·have:=hj 1 [] (by simp);omega
      ·split
       ·have:=hj 0 [124] (by simp);omega
       ·cases ps with
        | nil=>simp;omega
        | cons p ps=>
          have:=hp 2 p (by simp)
          have:=FM (l:=p::ps) (x:=p) (by simp)
          simp;omega
theorem ZT {b:Int} {x:Ex}:(KP b x).length+1≤2*El x:=by
 have:=Py (El x) x (Nat.le_refl _)
 have:=VX b x
 omega
theorem cm (b:Int) (sep:List UInt8) (hs:sep.length≤1) (ps:List Ex):(Lib.join (ps.map (KP b)) sep).length≤2*Ay ps:=by
 have h1:=Rl (ps.map (KP b)) sep
 rw [List.map_map] at h1
 have h2:=Tg ((fun x:List UInt8=>x.length+sep.length)∘KP b) (fun p=>2*El p) ps (fun p hp'=>by have:=ZT (b:=b) (x:=p);simp only [Function.comp];omega)
 rw [Px,←Bp] at h2
 omega
theorem d8 {k t:Int} {ps:List Ex} (h:Mk (.mk k t ps)=0):(1≤k∧k≤6)∧Ca k t ps.length=false∧¬(t < 0∨8≤t)∧LE ps=0:=by
 rw [Mk] at h
 split at h
 ·cases h
 ·split at h
  ·cases h
  ·split at h
   ·cases h
   ·split at h
    ·cases h
    ·rename_i h1 h2 h3 h4
     exact ⟨by omega,by simpa using h2,h4,h⟩
theorem Pz:∀{ps:List Ex},LE ps=0→∀p∈ps,Mk p=0
 | x::xs,h,p,hp=>by
   rw [LE] at h
   split at h
   ·contradiction
   ·rename_i hx
    rcases List.mem_cons.1 hp with rfl|hp
    ·omega
    ·exact Pz h p hp
def IE (l:List (List UInt8)):List V:=l.map V.str
theorem Rn (l:List (List UInt8)):(IE l).length=l.length:=by simp [IE]
theorem P0 (l:List (List UInt8)):BT (IE l):=by
 unfold IE
 rw [PW]
 intro x hx
 obtain ⟨q,_,rfl⟩:=List.mem_map.1 hx
 trivial
theorem KQ (id:Nat) (l:List (List UInt8)):AF id (IE l)=IE l:=AA id (P0 l)
theorem ZU (a b:List (List UInt8)):IE (a++b)=IE a++IE b:=by simp [IE]
def JW (k:Int):Int:=if k=3 then 0 else if k≤2 then 1 else 2
set_option maxHeartbeats 16000000 in
theorem Wr:∀(N:Nat) (k t:Int) (ps:List Ex),Ay ps≤N→N≤1048576→Mk (.mk k t ps)=0→Fn1 Tryz.prog 43 [.agg [.int .i64 k,.int .i64 t,.lst (ps.map Ah)]] (fun r=>r= .str (Pw (.mk k t ps))):=by
 intro N
 induction N using Nat.strongRecOn with
 | _ N ih=>
   intro k t ps hps hN hok
   obtain ⟨hk,hf,ht,hfl⟩:=d8 hok
   have hlm:(ps.map Ah).length=ps.length:=by simp
   have hll:=Ec ps
   refine Ax Tryz.func43 fun C hC hE=>?_
   conv=>whnf
   repeat' intro hlen<;>conv=>whnf
   refine Ab (fun j:Nat=>⟨72,[(1,.ptr 0 0 0),(3,.sl 1 0 ((ps.take j).map (KP (JW k))).length),(9,.lst (ps.map Ah)),(10,.int .i64 (ps.map Ah).length),(11,.int .i64 j)],[some (.row 3 [.agg [.int .i64 k,.int .i64 t,.lst (ps.map Ah)]]),some (.row 1 (IE ((ps.take j).map (KP (JW k)))))]⟩)
    (fun j=>j≤ps.length) (fun j=>ps.length - j) 0 hE ?_ (Nat.zero_le _) ?_
   ·exact J9 3 1 rfl rfl (AP [1,3,9,10,11] rfl)
   intro j hj
   by_cases hlt:j < ps.length
   ·obtain ⟨a,u,qs,hx,hx'⟩:=Rk hlt
    have hmem:=List.mem_of_getElem? hx
    have hp2:=FM hmem
    have hbd:=Py _ (.mk a u qs) (Nat.le_refl _)
    rw [CQ] at hp2 hbd
    have ih':=ih (Ay qs) (by omega) a u qs (Nat.le_refl _) (by omega) (Pz hfl _ hmem)
    have hjl:((ps.take j).map (KP (JW k))).length=j:=by simp;omega
    have hWp:((a=3∧k≠3)∨(a=2∧4≤k))→KP (JW k) (.mk a u qs)=40::(Pw (.mk a u qs)++[41]):=fun h=>by
     unfold KP
     rw [if_pos]
     unfold VW JW
     refine decide_eq_true ?_
     simp only [Ex.kind]
     (repeat' split)<;>omega
    have hWn:¬((a=3∧k≠3)∨(a=2∧4≤k))→KP (JW k) (.mk a u qs)=Pw (.mk a u qs):=fun h=>by
     unfold KP
     rw [if_neg]
     unfold VW JW
     rw [decide_eq_true_eq]
     simp only [Ex.kind]
     (repeat' split)<;>omega
    have hnext:(ps.take (j+1)).map (KP (JW k))=(ps.take j).map (KP (JW k))++[KP (JW k) (.mk a u qs)]:=by
     rw [List.take_add_one,hx,List.map_append];rfl
    generalize hL:(ps.take j).map (KP (JW k))=L at hjl hnext ⊢
    have hsl:=Rn L
    have hpush:∀(s:List UInt8) (x y z:Nat),AF x (AF y (AF z (List.take L.length (List.drop 0 (IE L))++List.take 1 (List.drop 0 [V.str s]))))=IE (L++[s]):=fun s x y z=>by
     rw [List.drop_zero,List.take_of_length_le (by omega),show IE L++List.take 1 (List.drop 0 [V.str s])=IE (L++[s]) by rw [ZU];rfl,KQ,KQ,KQ]
    conv=>whnf
    repeat' (first|refine A2 ?_|refine A1 ?_|refine AO ?_|refine AV ?_|refine Ad ?_|refine AN ih' hC Ni ?_|refine EN (Nat.le_refl 1) ?_|(refine EN ⟨?_,?_,?_⟩ ?_;omega;(show _+1≤9223372036854775807;omega);(show (_+1)*16≤140737488355328;omega))|refine EN (by simp;omega) ?_|refine GV (fun h=>?_) (fun h=>?_))<;>conv=>whnf
    all_goals refine AM [1,3,9,10,11] [2,3] (j+1) (show j+1≤ps.length by omega) (show ps.length - (j+1) < ps.length - j by omega) ?_
    all_goals conv=>whnf
    all_goals rw [hpush,hnext]
    all_goals first
     | (rw [hWn (by omega),List.length_append];rfl)
     | (rw [hWp (by omega),List.length_append];rfl)
   ·have hjn:j=ps.length:=by omega
    subst hjn
    rw [List.take_length]
    generalize hL:ps.map (KP (JW k))=L
    have hLl:L.length=ps.length:=by rw [←hL];simp
    have hsl:=Rn L
    have hfz:∀n,n=L.length→∀s:List UInt8,Ai 1 (IE L) [.sl 1 0 n,.str s]=[.lst (L.map V.str),.str s]:=fun n hn s=>by
     subst hn
     rw [Ot,Zb,if_pos rfl,if_pos (by omega),List.drop_zero,List.take_of_length_le (by omega),Ot,cq,Zc]
     rfl
    have hjb:∀sep:List UInt8,sep.length≤1→(Lib.join L sep).length≤2*Ay ps:=fun sep hs=>by rw [←hL];exact cm _ sep hs ps
    have hform:∀h:Ca k t ps.length=true,False:=fun h=>by rw [hf] at h;cases h
    have hform:¬(k=1∧0 < ps.length)∧¬(k≠1∧t≠0)∧¬(4≤k∧ps.length≠1):=by
     unfold Ca at hf
     simp only [Bool.or_eq_false_iff,decide_eq_false_iff_not] at hf
     omega
    rcases (by omega:k=1∨k=2∨k=3∨(k=4∨k=5∨k=6)) with rfl|rfl|rfl|hk4
    ·rcases (by omega:t=0∨t=1∨t=2∨t=3∨t=4∨t=5∨t=6∨t=7) with rfl|rfl|rfl|rfl|rfl|rfl|rfl|rfl
     all_goals
      conv=>whnf
      repeat' (first|refine A2 ?_|refine A1 ?_|refine AO ?_|refine AV ?_|refine EN (by decide) ?_|refine AC hE ?_)<;>conv=>whnf
      exact ⟨rfl,by rw [ce];rfl⟩
    ·have hjs:=Oq L [] (by omega) (by have:=hjb [] (by simp);omega)
     conv=>whnf
     repeat' (first|refine A2 ?_|refine A1 ?_|refine Cr 1 hjs hC Nj rfl (P0 _) rfl (hfz _ rfl _) rfl rfl ?_|refine AC hE ?_)<;>conv=>whnf
     exact ⟨rfl,by rw [cj,←hL];rfl⟩
    ·have hjs:=Oq L [124] (by omega) (by have:=hjb [124] (by simp);omega)
     conv=>whnf
     repeat' (first|refine A2 ?_|refine A1 ?_|refine Cr 1 hjs hC Nj rfl (P0 _) rfl (hfz _ rfl _) rfl rfl ?_|refine AC hE ?_)<;>conv=>whnf
     exact ⟨rfl,by rw [cl,←hL];rfl⟩
    ·obtain ⟨p,rfl⟩:∃p,ps=[p]:=by
      match ps,(show ps.length=1 by omega) with
      | [p],_=>exact ⟨p,rfl⟩
     have hb2:JW k=2:=by unfold JW;rw [if_neg (by omega),if_neg (by omega)]
     rw [hb2] at hL
     simp only [List.map_cons,List.map_nil] at hL
     subst hL
     have hwb:=ZT (b:=2) (x:=p)
     have hsz:El p≤Ay [p]:=FM (by simp)
     rcases hk4 with rfl|rfl|rfl
     all_goals
      conv=>whnf
      repeat' (first|refine A1 ?_|refine AO ?_|refine AV ?_|refine EN (by decide) ?_|refine EN (by simp;omega) ?_|(refine An hE ?_ ?_;decide +kernel)|refine AC hE ?_)<;>conv=>whnf
      exact ⟨rfl,by rw [ZS (by decide)];rfl⟩
end Go.Proofs.YtkaiffheakalmaaGreatDoor
