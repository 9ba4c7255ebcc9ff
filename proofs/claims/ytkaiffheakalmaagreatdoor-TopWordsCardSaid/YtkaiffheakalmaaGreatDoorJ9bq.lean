/- Joined. No conditions. -/
import Derived.Test.YtkaiffheakalmaaGreatDoorJ9bp
set_option linter.unusedSimpArgs false
set_option linter.unusedVariables false
set_option maxRecDepth 100000
namespace Go.Proofs.YtkaiffheakalmaaGreatDoor
open Go.RowKit
theorem aO {ps:List Ex} {k:Nat} {p:Ex} (h:ps[k]?=some p) (w:List Int) (f:List Bool):A3 (Av p) w (A3 (Bq (ps.take k)) w f)=A3 (Bq (ps.take (k+1))) w f:=by
 rw [SG,List.take_add_one,h]
 exact NG (fun v=>(XQ _ _ v).symm) w f
theorem aP {ps:List Ex} {k:Nat} {p:Ex} (h:ps[k]?=some p) (w:List Int) (f:List Bool):Ji (A3 (BU (ps.take k)) w f) (A3 (Av p) w f)=A3 (BU (ps.take (k+1))) w f:=by
 rw [Vq,List.take_add_one,h]
 exact NG (fun v=>(XP _ _ v).symm) w f
theorem NO {k t:Int} {ps:List Ex} (h4:4≤k) (h:Ca k t ps.length=false):∃p,ps=[p]:=by
 unfold Ca at h
 simp only [Bool.or_eq_false_iff,decide_eq_false_iff_not] at h
 have:ps.length=1:=by
  have:=h.2
  omega
 match ps,this with
 | [p],_=>exact ⟨p,rfl⟩
set_option maxHeartbeats 16000000 in
theorem T7 (w:List Int) (hw:w.length≤40):∀(N:Nat) (k t:Int) (ps:List Ex) (f:List Bool),Ay ps≤N→N≤1048576→Mk (.mk k t ps)=0→f.length=w.length+1→
 Fn1 Tryz.prog 21 [.agg [.int .i64 k,.int .i64 t,.lst (ps.map Ah)],AL w,.lst (f.map V.bool)] (fun r=>r= .lst ((A3 (Av (.mk k t ps)) w f).map V.bool)):=by
 intro N
 induction N using Nat.strongRecOn with
 | _ N ih=>
   intro k t ps f hps hN hok hf
   obtain ⟨hk,hfo,ht,hfl⟩:=d8 hok
   have hlm:(ps.map Ah).length=ps.length:=by simp
   have hwm:(w.map (V.int .i64)).length=w.length:=by simp
   have hfm:(f.map V.bool).length=f.length:=by simp
   have hll:=Ec ps
   have hcl:=SJ f (by omega) (by omega)
   have ihp:∀{j:Nat} {a u:Int} {qs:List Ex} (g:List Bool),ps[j]?=some (.mk a u qs)→g.length=w.length+1→Fn1 Tryz.prog 21 [.agg [.int .i64 a,.int .i64 u,.lst (qs.map Ah)],AL w,.lst (g.map V.bool)] (fun r=>r= .lst ((A3 (Av (.mk a u qs)) w g).map V.bool)):=fun g hx hg=>by
    have hmem:=List.mem_of_getElem? hx
    have hp2:=FM hmem
    rw [CQ] at hp2
    exact ih _ (by omega) _ _ _ g (Nat.le_refl _) (by omega) (Pz hfl _ hmem) hg
   have hcases:k=1∨k=2∨k=3∨k=4∨k=5∨k=6:=by omega
   unfold AL
   rcases hcases with rfl|rfl|rfl|rfl|rfl|rfl
   ·rw [Z9,←aF]
    refine Ax Tryz.func21 fun C hC hE=>?_
    conv=>whnf
    repeat' (first|refine A2 ?_|refine AO ?_|intro hlen)<;>conv=>whnf
    refine Ab (fun j:Nat=>⟨114,[(1,.lst (w.map (V.int .i64))),(2,.lst (f.map V.bool)),(3,.ptr 0 0 0),(7,.sl 1 0 (w.length+1)),(48,.lst (w.map (V.int .i64))),(49,.int .i64 (w.map (V.int .i64)).length),(50,.int .i64 j)],[some (.row 3 [.agg [.int .i64 1,.int .i64 t,.lst (ps.map Ah)]]),some (.row 1 ((Hf t w f j).map V.bool))]⟩)
     (fun j=>j≤w.length) (fun j=>w.length - j) 0 hE ?_ (Nat.zero_le _) ?_
    ·refine AP [1,2,3,7,48,49,50] ?_
     conv=>whnf
     rw [hfm,Int.toNat_natCast,hf]
     show (⟨114,_,[_,some (.row 1 (List.replicate (w.length+1) (V.bool false)))]⟩:ES)=⟨114,_,[_,some (.row 1 ((Hf t w f 0).map V.bool))]⟩
     rw [aD,List.map_replicate]
     rfl
    intro j hj
    have hol:=Vr t w f j
    have hom:((Hf t w f j).map V.bool).length=w.length+1:=by rw [List.length_map];exact hol
    by_cases hlt:j < w.length
    ·obtain ⟨x,hx⟩:∃x,w[j]?=some x:=⟨_,List.getElem?_eq_getElem hlt⟩
     obtain ⟨y,hy⟩:∃y,f[j]?=some y:=⟨_,List.getElem?_eq_getElem (by omega)⟩
     have gx:(w.map (V.int .i64))[j]?=some (.int .i64 x):=by rw [List.getElem?_map,hx];rfl
     have gy:(f.map V.bool)[j]?=some (.bool y):=by rw [List.getElem?_map,hy];rfl
     obtain ⟨z,hz⟩:∃z,(Hf t w f j)[j+1]?=some z:=⟨_,List.getElem?_eq_getElem (by omega)⟩
     have gz:((Hf t w f j).map V.bool)[0+Int.toNat ((j:Int)+1)]?=some (.bool z):=by rw [Nat.zero_add,show Int.toNat ((j:Int)+1)=j+1 by omega,List.getElem?_map,hz];rfl
     have hnx:=aE (t:=t) hx hy
     cases y<;>by_cases hxt:x=t
     all_goals
      conv=>whnf
      repeat' (first|refine A2 ?_|refine A1 ?_|refine AO ?_|refine AV ?_|refine Ad ?_)<;>conv=>whnf
      refine AD [1,2,3,7,48,49,50] (j+1) hlt (by omega) ?_
      conv=>whnf
      rw [Nat.zero_add,show Int.toNat ((j:Int)+1)=j+1 by omega,hnx,List.map_set]
      first|rfl|(rw [decide_eq_true hxt];rfl)|(rw [decide_eq_false hxt];rfl)
    ·conv=>whnf
     repeat' (first|refine A1 ?_<;>conv=>whnf|refine DD (A4 1 6 [] rfl (Gf _) rfl (by omega) rfl (AH ?_))|refine AC hE ?_<;>conv=>whnf)
     all_goals first
      | (exfalso;omega)
      | (obtain rfl:j=w.length:=by omega
         exact ⟨rfl,rfl⟩)
   ·rw [aA]
    refine Ax Tryz.func21 fun C hC hE=>?_
    conv=>whnf
    repeat' (first|refine A2 ?_|refine A1 ?_|refine AO ?_|refine AN hcl hC FY ?_|intro hlen)<;>conv=>whnf
    refine Ab (fun j:Nat=>⟨114,[(1,.lst (w.map (V.int .i64))),(2,.lst (f.map V.bool)),(7,.lst ((A3 (Bq (ps.take j)) w f).map V.bool)),(75,.lst (ps.map Ah)),(76,.int .i64 (ps.map Ah).length),(77,.int .i64 j)],[]⟩)
     (fun j=>j≤ps.length) (fun j=>ps.length - j) 0 hE ?_ (Nat.zero_le _) ?_
    ·refine EQ [1,2,7,75,76,77] [0,1] ?_
     conv=>whnf
     rw [show A3 (Bq (ps.take 0)) w f=f from SF hf]
     rfl
    intro j hj
    have hsl:=BK (Bq (ps.take j)) w f
    by_cases hlt:j < ps.length
    ·obtain ⟨a,u,qs,hx,hx'⟩:=Rk hlt
     have hn:=aO hx w f
     have ih':=ihp _ hx hsl
     unfold AL at ih'
     rw [hn] at ih'
     conv=>whnf
     repeat' (first|refine A2 ?_|refine AO ?_|refine AV ?_|refine Ad ?_|refine AN ih' hC Cd ?_)<;>conv=>whnf
     refine AM [1,2,7,75,76,77] [0] (j+1) hlt (by omega) ?_
     conv=>whnf
     rfl
    ·obtain rfl:j=ps.length:=by omega
     rw [List.take_length]
     conv=>whnf
     repeat' (first|refine A1 ?_|refine AC hE ?_)<;>conv=>whnf
     all_goals exact ⟨rfl,rfl⟩
   ·rw [aB]
    refine Ax Tryz.func21 fun C hC hE=>?_
    conv=>whnf
    repeat' (first|refine A2 ?_|refine A1 ?_|refine AO ?_|intro hlen)<;>conv=>whnf
    refine Ab (fun j:Nat=>⟨114,[(1,.lst (w.map (V.int .i64))),(2,.lst (f.map V.bool)),(7,.lst ((A3 (BU (ps.take j)) w f).map V.bool)),(89,.lst (ps.map Ah)),(90,.int .i64 (ps.map Ah).length),(91,.int .i64 j)],[]⟩)
     (fun j=>j≤ps.length) (fun j=>ps.length - j) 0 hE ?_ (Nat.zero_le _) ?_
    ·refine A4 1 7 [1,2,89,90,91] (els:=List.replicate (Int.toNat ((f.map V.bool).length:Int)) (V.bool false)) rfl ?_ rfl ?_ rfl (EQ [1,2,7,89,90,91] [0] ?_)
     ·rw [show List.replicate (Int.toNat ((f.map V.bool).length:Int)) (V.bool false)=(List.replicate (Int.toNat ((f.map V.bool).length:Int)) false).map V.bool by rw [List.map_replicate]]
      exact Gf _
     ·rw [List.length_replicate]
     ·conv=>whnf
      rw [show A3 (BU (ps.take 0)) w f=List.replicate (w.length+1) false from dJ,List.map_replicate,hfm,hf]
      rfl
    intro j hj
    have hsl:=BK (BU (ps.take j)) w f
    by_cases hlt:j < ps.length
    ·obtain ⟨a,u,qs,hx,hx'⟩:=Rk hlt
     have hn:=aP hx w f
     have ih':=ihp _ hx hf
     unfold AL at ih'
     have he:=Fq (A3 (BU (ps.take j)) w f) (A3 (Av (.mk a u qs)) w f) (by rw [hsl,BK]) (by omega)
     rw [hn] at he
     conv=>whnf
     repeat' (first|refine A2 ?_|refine AO ?_|refine AV ?_|refine Ad ?_|refine AN ih' hC Cd ?_|refine AN he hC EG ?_)<;>conv=>whnf
     refine AM [1,2,7,89,90,91] [0] (j+1) hlt (by omega) ?_
     conv=>whnf
     rfl
    ·obtain rfl:j=ps.length:=by omega
     rw [List.take_length]
     conv=>whnf
     repeat' (first|refine A1 ?_|refine AC hE ?_)<;>conv=>whnf
     all_goals exact ⟨rfl,rfl⟩
   ·obtain ⟨⟨a,u,qs⟩,rfl⟩:=NO (by omega) hfo
    have hp0:([Ex.mk a u qs].map Ah)[0]?=some (.agg [.int .i64 a,.int .i64 u,.lst (qs.map Ah)]):=by rw [List.map_cons,DF];rfl
    obtain ⟨P,hP⟩:∃P,[Ex.mk a u qs].map Ah=P:=⟨_,rfl⟩
    rw [hP] at hp0 hlm ⊢
    simp only [List.length_singleton] at hlm
    rw [O4,KW]
    refine Ax Tryz.func21 fun C hC hE=>?_
    conv=>whnf
    repeat' (first|refine A1 ?_|refine AO ?_|refine AN hcl hC FY ?_|intro hlen)<;>conv=>whnf
    refine Ab (fun out:List Bool=>⟨114,[(1,.lst (w.map (V.int .i64))),(3,.ptr 0 0 0),(7,.lst (out.map V.bool))],[some (.row 3 [.agg [.int .i64 4,.int .i64 t,.lst P]])]⟩)
     (fun out=>StarI (Av (.mk a u qs)) w f out) (fun out=>w.length+1 - N6 out) f hE ?_ (StarI.start hf) ?_
    ·refine EQ [1,3,7] [1] ?_
     conv=>whnf
     rfl
    intro out hI
    have hol:=hI.len
    have hom:(out.map V.bool).length=out.length:=by simp
    have ih':=ihp (j:=0) out rfl hol
    unfold AL at ih'
    have he:=Fq out (A3 (Av (.mk a u qs)) w out) (by rw [hol,BK]) (by omega)
    have hq:=K3 (Ji out (A3 (Av (.mk a u qs)) w out)) out
    have hnI:=hI.next
    by_cases hd:Ji out (A3 (Av (.mk a u qs)) w out)=out
    ·have hfin:=hI.done hd
     rw [hd] at he hq
     rw [decide_eq_true rfl] at hq
     conv=>whnf
     repeat' (first|refine AO ?_|refine Ad ?_|refine AN ih' hC Cd ?_|refine AN he hC EG ?_|refine AN hq hC Gn ?_|refine AC hE ?_)<;>conv=>whnf
     all_goals exact ⟨rfl,by rw [←hfin]⟩
    ·have hc:=NI (show out.length=(A3 (Av (.mk a u qs)) w out).length by rw [hol,BK]) hd
     have hc2:=aG (Ji out (A3 (Av (.mk a u qs)) w out))
     rw [hnI.len] at hc2
     rw [decide_eq_false hd] at hq
     conv=>whnf
     repeat' (first|refine AO ?_|refine Ad ?_|refine AN ih' hC Cd ?_|refine AN he hC EG ?_|refine AN hq hC Gn ?_)<;>conv=>whnf
     all_goals exact AD [1,3,7] _ hnI (by show _ < _;omega) rfl
   ·obtain ⟨⟨a,u,qs⟩,rfl⟩:=NO (by omega) hfo
    have hp0:([Ex.mk a u qs].map Ah)[0]?=some (.agg [.int .i64 a,.int .i64 u,.lst (qs.map Ah)]):=by rw [List.map_cons,DF];rfl
    obtain ⟨P,hP⟩:∃P,[Ex.mk a u qs].map Ah=P:=⟨_,rfl⟩
    rw [hP] at hp0 hlm ⊢
    simp only [List.length_singleton] at hlm
    rw [XO,KW]
    have ih0:=ihp (j:=0) f rfl hf
    unfold AL at ih0
    have hsl0:=BK (Av (.mk a u qs)) w f
    rw [←SG]
    refine Ax Tryz.func21 fun C hC hE=>?_
    conv=>whnf
    repeat' (first|refine A2 ?_|refine A1 ?_|refine AO ?_|refine Ad ?_|refine AN hcl hC FY ?_|refine AN ih0 hC Cd ?_|intro hlen)<;>conv=>whnf
    refine Ab (fun out:List Bool=>⟨114,[(1,.lst (w.map (V.int .i64))),(3,.ptr 0 0 0),(7,.lst (out.map V.bool))],[some (.row 3 [.agg [.int .i64 5,.int .i64 t,.lst P]])]⟩)
     (fun out=>StarI (Av (.mk a u qs)) w (A3 (Av (.mk a u qs)) w f) out) (fun out=>w.length+1 - N6 out) (A3 (Av (.mk a u qs)) w f) hE ?_ (StarI.start hsl0) ?_
    ·refine EQ [1,3,7] [1] ?_
     conv=>whnf
     rfl
    intro out hI
    have hol:=hI.len
    have hom:(out.map V.bool).length=out.length:=by simp
    have ih':=ihp (j:=0) out rfl hol
    unfold AL at ih'
    have he:=Fq out (A3 (Av (.mk a u qs)) w out) (by rw [hol,BK]) (by omega)
    have hq:=K3 (Ji out (A3 (Av (.mk a u qs)) w out)) out
    have hnI:=hI.next
    by_cases hd:Ji out (A3 (Av (.mk a u qs)) w out)=out
    ·have hfin:=hI.done hd
     rw [hd] at he hq
     rw [decide_eq_true rfl] at hq
     conv=>whnf
     repeat' (first|refine AO ?_|refine Ad ?_|refine AN ih' hC Cd ?_|refine AN he hC EG ?_|refine AN hq hC Gn ?_|refine AC hE ?_)<;>conv=>whnf
     all_goals exact ⟨rfl,by rw [←hfin]⟩
    ·have hc:=NI (show out.length=(A3 (Av (.mk a u qs)) w out).length by rw [hol,BK]) hd
     have hc2:=aG (Ji out (A3 (Av (.mk a u qs)) w out))
     rw [hnI.len] at hc2
     rw [decide_eq_false hd] at hq
     conv=>whnf
     repeat' (first|refine AO ?_|refine Ad ?_|refine AN ih' hC Cd ?_|refine AN he hC EG ?_|refine AN hq hC Gn ?_)<;>conv=>whnf
     all_goals exact AD [1,3,7] _ hnI (by show _ < _;omega) rfl
   ·obtain ⟨⟨a,u,qs⟩,rfl⟩:=NO (by omega) hfo
    have hp0:([Ex.mk a u qs].map Ah)[0]?=some (.agg [.int .i64 a,.int .i64 u,.lst (qs.map Ah)]):=by rw [List.map_cons,DF];rfl
    obtain ⟨P,hP⟩:∃P,[Ex.mk a u qs].map Ah=P:=⟨_,rfl⟩
    rw [hP] at hp0 hlm ⊢
    simp only [List.length_singleton] at hlm
    rw [aC,KW]
    have ih0:=ihp (j:=0) f rfl hf
    unfold AL at ih0
    have he:=Fq f (A3 (Av (.mk a u qs)) w f) (by rw [hf,BK]) (by omega)
    have hn:Ji f (A3 (Av (.mk a u qs)) w f)=A3 (fun v=>v=[]∨Av (.mk a u qs) v) w f:=by
     rw [←Vq,SF hf]
    rw [hn] at he
    refine Ax Tryz.func21 fun C hC hE=>?_
    conv=>whnf
    repeat' (first|refine A2 ?_|refine A1 ?_|refine AO ?_|refine Ad ?_|refine AN ih0 hC Cd ?_|refine AN he hC EG ?_|refine AC hE ?_|intro hlen)<;>conv=>whnf
    all_goals exact ⟨rfl,rfl⟩
theorem T8 (L:List Int→Prop) (w:List Int):(A3 L w (true::List.replicate w.length false)).getD w.length false=true↔L w:=by
 rw [Dr (Nat.le_refl _)]
 constructor
 ·rintro ⟨i,hi,h1,h2⟩
  cases i with
  | zero=>simpa using h2
  | succ i=>
    rw [List.getD_eq_getElem?_getD,List.getElem?_cons_succ,List.getElem?_replicate] at h1
    split at h1<;>simp at h1
 ·intro h
  exact ⟨0,Nat.zero_le _,rfl,by simpa using h⟩
def N7 (n:Int):Bool:=decide (n < 0) || decide (8≤n)
theorem fX (n:Int):Fn1 Tryz.prog 20 [.int .i64 n] (fun r=>r= .bool (N7 n)):=by
 refine Ax Tryz.func20 fun C hC hE=>?_
 conv=>whnf
 repeat' (first|refine GV (fun h=>?_) (fun h=>?_)|refine AC hE ?_)<;>conv=>whnf
 all_goals exact ⟨rfl,by unfold N7;simp;omega⟩
set_option maxHeartbeats 4000000 in
theorem T9 (x:Ex) (hx:El x≤1048576) (hc:ZR x=0) (w:List Int) (hw:w.length≤40) (hr:∀n∈w,0≤n∧n < 8):
 Fn1 Tryz.prog 10 [.agg (jf x),AL w] (fun r=>∃b,r= .tup [.bool b,.int .i64 0]∧(b=true↔Av x w)):=by
 have h1:=If x hx
 rw [Pv,hc] at h1
 rw [Pv]
 have hwm:(w.map (V.int .i64)).length=w.length:=by simp
 have hcf:=B8 w 20 [] N7 UM rfl (fun q _=>fX q)
 have hany:w.any N7=false:=by
  rw [List.any_eq_false]
  intro n hn
  have:=hr n hn
  unfold N7
  simp;omega
 rw [hany] at hcf
 have hre:=T7 w hw (Ay x.parts) x.kind x.type x.parts (true::List.replicate w.length false) (Nat.le_refl _) (by cases x;rw [CQ] at hx;show Ay _≤_;simp only [Ex.parts];omega) (by rw [Te];exact fB hc) (by simp)
 rw [Te] at hre
 obtain ⟨b,hb⟩:∃b,(A3 (Av x) w (true::List.replicate w.length false)).getD w.length false=b:=⟨_,rfl⟩
 have hbi:=T8 (Av x) w
 have hE0:(List.replicate (Int.toNat (((w.map (V.int .i64)).length:Int)+1)) (V.bool false)).set 0 (V.bool true)=(true::List.replicate w.length false).map V.bool:=by
  rw [hwm,show Int.toNat ((w.length:Int)+1)=w.length+1 by omega,List.replicate_succ,List.set_cons_zero,List.map_cons,List.map_replicate]
 rw [hb] at hbi
 have hsl:=BK (Av x) w (true::List.replicate w.length false)
 generalize A3 (Av x) w (true::List.replicate w.length false)=o at*
 have hg:(o.map V.bool)[Int.toNat ((w.map (V.int .i64)).length:Int)]?=some (.bool b):=by
  rw [hwm,Int.toNat_natCast]
  rw [List.getElem?_map,List.getElem?_eq_getElem (by omega)]
  rw [List.getD_eq_getElem?_getD,List.getElem?_eq_getElem (by omega)] at hb
  rw [←hb];rfl
 have hom:(o.map V.bool).length=o.length:=by simp
 unfold AL at hre ⊢
 cases b
 all_goals
  refine Ax Tryz.func10 fun C hC hE=>?_
  conv=>whnf
  repeat' (first|refine A2 ?_|refine A1 ?_|refine AO ?_|refine AV ?_|refine Ad ?_|refine AN h1 hC Gm ?_|refine AN hcf hC EF ?_|refine AN hre hC Cd ?_|refine AY (A4 1 26 [1,24,25] (congrArg (fun l=>some (some (Ob.row 1 l))) hE0) (Gf _) rfl (by simp) rfl (AH ?_))|refine AC hE ?_|intro hlen)<;>conv=>whnf
  all_goals exact ⟨rfl,_,rfl,hbi⟩
theorem Xn (x:Ex) (hx:El x≤1048576) (hc:ZR x=0) (w:List Int) (hw:w.length≤40) (hr:∀n∈w,0≤n∧n < 8):∃b:Bool,(b=true↔Av x w)∧Fn1 Tryz.prog 10 [Ah x,AL w] (fun r=>r= .tup [.bool b,.int .i64 0]):=by
 have hm:=T9 x hx hc w hw hr
 by_cases h:Av x w
 ·refine ⟨true,by simp [h],fun wd I vs a b c=>(hm wd I vs a b c).mono ?_⟩
  rintro e w' ⟨v,r,I',h1,⟨b',h2,h3⟩,h4⟩
  have:b'=true:=h3.2 h
  subst this
  exact ⟨v,r,I',h1,h2,h4⟩
 ·refine ⟨false,by simp [h],fun wd I vs a b c=>(hm wd I vs a b c).mono ?_⟩
  rintro e w' ⟨v,r,I',h1,⟨b',h2,h3⟩,h4⟩
  have:b'=false:=by
   cases b' with
   | false=>rfl
   | true=>exact absurd (h3.1 rfl) h
  subst this
  exact ⟨v,r,I',h1,h2,h4⟩
def Dx (d f:Int):V:=.agg [.int .i64 d,.int .i64 f]
def Se (d f d' f':Int):Bool:=decide (d < d') || (decide (d=d')&&decide (f < f'))
theorem Qi (d f d' f':Int):Fn1 Tryz.prog 74 [Dx d f,Dx d' f'] (fun r=>r= .bool (Se d f d' f')):=by
 unfold Dx
 refine Ax Tryz.func74 fun C hC hE=>?_
 conv=>whnf
 repeat' (first|refine GV (fun h=>?_) (fun h=>?_)|refine AC hE ?_)<;>conv=>whnf
 all_goals exact ⟨rfl,by simp [Se, *]⟩
theorem V1 (d f d' f':Int) (hd:0≤d∧d≤1000000000) (hf:0≤f∧f≤1000000000) (hd':0≤d'∧d'≤1000000000) (hf':0≤f'∧f'≤1000000000):Fn1 Tryz.prog 51 [Dx d f,Dx d' f'] (fun r=>r=Dx (d+d') (f+f')):=by
 unfold Dx
 refine Ax Tryz.func51 fun C hC hE=>?_
 conv=>whnf
 repeat' (first|refine AV ?_|refine AC hE ?_)<;>conv=>whnf
 exact ⟨rfl,rfl⟩
theorem df (ty au:List V) (Z:List Int) (n:Nat) (z:Int) (hz:Z[n]?=some z):Fn1 Tryz.prog 75 [.rp [.lst ty,.lst au,AL Z],.int .i64 n] (fun r=>r= .int .i64 z):=by
 have g:Z[Int.toNat (n:Int)]?=some z:=by rw [Int.toNat_natCast];exact hz
 unfold AL
 have hzm:(Z.map (V.int .i64)).length=Z.length:=by simp
 have hl:=(List.getElem?_eq_some_iff.1 hz).1
 refine Ax Tryz.func75 fun C hC hE=>?_
 conv=>whnf
 repeat' (first|refine AO ?_|refine Hk ?_|refine AC hE ?_)<;>conv=>whnf
 exact ⟨rfl,rfl⟩
theorem kF (x:Int):Fn1 Tryz.prog 26 [.int .i64 x] (fun r=>r= .bool (N7 x)):=by
 refine Ax Tryz.func26 fun C hC hE=>?_
 conv=>whnf
 repeat' (first|refine GV (fun h=>?_) (fun h=>?_)|refine AC hE ?_)<;>conv=>whnf
 all_goals exact ⟨rfl,by unfold N7;simp;omega⟩
theorem Sf (N:List (List Int)) (w:List Int) {i:Nat} {x:Int} (h:w[i]?=some x):GL N 0 (w.take (i+1))=V4 N (GL N 0 (w.take i)) x:=by
 rw [List.take_add_one,h]
 unfold GL
 rw [List.foldl_append]
 rfl
theorem V2 {N:List (List Int)} (hN:∀r∈N,r.length=8) (hto:∀r∈N,∀y∈r,-1≤y∧y < N.length) (hp:1≤N.length) (w:List Int) (hw:∀n∈w,0≤n∧n < 8):∀i,i≤w.length→-1≤GL N 0 (w.take i)∧GL N 0 (w.take i) < N.length:=by
 intro i
 induction i with
 | zero=>intro _;show -1≤(0:Int)∧(0:Int) < _;omega
 | succ i ih=>
   intro hi
   obtain ⟨x,hx⟩:∃x,w[i]?=some x:=⟨_,List.getElem?_eq_getElem (by omega)⟩
   have h1:=ih (by omega)
   have hx2:=hw x (List.mem_of_getElem? hx)
   rw [Sf N w hx]
   generalize GL N 0 (w.take i)=a at*
   unfold V4
   split
   ·obtain ⟨r,hr⟩:∃r,N[a.toNat]?=some r:=⟨_,List.getElem?_eq_getElem (by omega)⟩
    rw [List.getD_eq_getElem?_getD,List.getD_eq_getElem?_getD,hr]
    have hm:=List.mem_of_getElem? hr
    have h8:=hN r hm
    obtain ⟨y,hy⟩:∃y,r[x.toNat]?=some y:=⟨_,List.getElem?_eq_getElem (by omega)⟩
    rw [Option.getD_some,hy]
    exact hto r hm y (List.mem_of_getElem? hy)
   ·exact h1
theorem ax {N:List (List Int)} {F:List Bool} (h40:N.length≤40) (hp:1≤N.length) (hF:F.length=N.length) (hN:∀r∈N,r.length=8) (hto:∀r∈N,∀y∈r,-1≤y∧y < N.length):Mo N F=true:=by
 unfold Mo
 have:N.any (Ij N.length)=false:=by
  rw [List.any_eq_false]
  intro r hr
  unfold Ij
  have h1:r.any (FO N.length)=false:=by
   rw [List.any_eq_false]
   intro y hy
   have:=hto r hr y hy
   unfold FO
   simp;omega
  rw [h1,hN r hr]
  simp
 rw [this]
 simp [*]
set_option maxHeartbeats 4000000 in
theorem ay (m:Mc) (h40:m.N.length≤40) (hp:1≤m.N.length) (hF:m.F.length=m.N.length) (hN:∀r∈m.N,r.length=8) (hto:∀r∈m.N,∀y∈r,-1≤y∧y < m.N.length) (w:List Int) (hwl:w.length≤40) (hw:∀n∈w,0≤n∧n < 8):
 Fn1 Tryz.prog 13 [BB m,AL w] (fun r=>r= .tup [.int .i64 (GL m.N 0 w),.int .i64 0]):=by
 have hm:=kL m.N m.F
 rw [ax h40 hp hF hN hto] at hm
 unfold Zd at hm
 unfold BB AL at*
 have hwm:(w.map (V.int .i64)).length=w.length:=by simp
 have hNm:(m.N.map fun l=>V.lst (l.map (V.int .i64))).length=m.N.length:=by simp
 have hcf:=B8 w 26 [] N7 UR rfl (fun q _=>kF q)
 have hany:w.any N7=false:=by
  rw [List.any_eq_false]
  intro n hn
  have:=hw n hn
  unfold N7
  simp;omega
 rw [hany] at hcf
 have hrr:=V2 hN hto hp w hw
 refine Ax Tryz.func13 fun C hC hE=>?_
 conv=>whnf
 repeat' (first|refine A1 ?_|refine AN hm hC Gl ?_|refine AN hcf hC EF ?_|intro hlen)<;>conv=>whnf
 refine Ab (fun i:Nat=>⟨38,[(2,.rp [.lst (m.N.map fun l=>.lst (l.map (V.int .i64))),.lst (m.F.map V.bool)]),(6,.int .i64 (GL m.N 0 (w.take i))),(20,.lst (w.map (V.int .i64))),(21,.int .i64 w.length),(22,.int .i64 i)],[]⟩) (fun i=>i≤w.length) (fun i=>w.length - i) 0 hE ?_ (Nat.zero_le _) ?_
 ·refine AK 0 (z:=2) (els:=[.agg [.lst (m.N.map fun l=>.lst (l.map (V.int .i64))),.lst (m.F.map V.bool)]]) rfl ⟨⟨trivial,trivial,trivial⟩,trivial⟩ (EQ [2,6,20,21,22] [0] ?_)
  conv=>whnf
  rw [hwm]
  rfl
 intro i hi
 have hi:i≤w.length:=hi
 have hr:=hrr i hi
 by_cases hlt:i < w.length
 ·obtain ⟨x,hx⟩:∃x,w[i]?=some x:=⟨_,List.getElem?_eq_getElem hlt⟩
  have hx2:=hw x (List.mem_of_getElem? hx)
  have gw:w[Int.toNat (i:Int)]?=some x:=by rw [Int.toNat_natCast];exact hx
  have hnx:=Sf m.N w hx
  generalize hat:GL m.N 0 (w.take i)=a at*
  by_cases ha:0≤a
  ·obtain ⟨r,hr1⟩:∃r,m.N[a.toNat]?=some r:=⟨_,List.getElem?_eq_getElem (by omega)⟩
   have h8:=hN r (List.mem_of_getElem? hr1)
   obtain ⟨y,hy⟩:∃y,r[x.toNat]?=some y:=⟨_,List.getElem?_eq_getElem (by omega)⟩
   have hrm:(r.map (V.int .i64)).length=r.length:=by simp
   have hgo:V4 m.N a x=y:=by unfold V4;rw [if_pos ha,List.getD_eq_getElem?_getD,List.getD_eq_getElem?_getD,hr1,Option.getD_some,hy,Option.getD_some]
   rw [hgo] at hnx
   conv=>whnf
   repeat' (first|refine A2 ?_|refine AO ?_|refine AV ?_|refine Hk ?_)<;>conv=>whnf
   refine AD [2,6,20,21,22] (i+1) ?_ ?_ ?_
   ·exact hlt
   ·show w.length - (i+1) < w.length - i
    omega
   conv=>whnf
   rw [hnx]
   rfl
  ·have hgo:V4 m.N a x=a:=by unfold V4;rw [if_neg ha]
   rw [hgo] at hnx
   conv=>whnf
   repeat' (first|refine A2 ?_|refine A1 ?_|refine AO ?_|refine AV ?_|refine Hk ?_)<;>conv=>whnf
   refine AD [2,6,20,21,22] (i+1) ?_ ?_ ?_
   ·exact hlt
   ·show w.length - (i+1) < w.length - i
    omega
   conv=>whnf
   rw [hnx]
   rfl
 ·obtain rfl:i=w.length:=by omega
  rw [List.take_length] at*
  conv=>whnf
  repeat' (first|refine A1 ?_|refine AC hE ?_)<;>conv=>whnf
  exact ⟨rfl,rfl⟩
structure Ce where
 d:Int
 f:Int
 ok:Bool
def Ce.non:Ce:=⟨0,0,false⟩
def G0 (c:Ce):V:=.agg [.int .i64 c.d,.int .i64 c.f,.bool c.ok]
def Ip (c:Ce) (d f:Int):Bool:=!(c.ok&&!Se d f c.d c.f)
def Sp (c:Ce):Int:=if c.ok=true then c.d else 14
def eI (c:Ce):Int:=if c.ok=true then c.d*100000000+c.f else 1400000000
def Sc (R:List Ce):Int:=(R.map Sp).sum
def V0 (R:List Ce):Int:=(R.map eI).sum
theorem Sd (l:List Int) (i:Nat) (x y:Int) (h:l[i]?=some y):(l.set i x).sum+y=l.sum+x:=by
 induction l generalizing i with
 | nil=>simp at h
 | cons a l ih=>
   cases i with
   | zero=>simp at h;subst h;simp;omega
   | succ i=>simp at h ⊢;have:=ih i h;omega
theorem Qg {R:List Ce} {i:Nat} {a:Ce} (h:R[i]?=some a) (b:Ce):Sc (R.set i b)+Sp a=Sc R+Sp b:=by
 unfold Sc
 rw [List.map_set]
 exact Sd _ _ _ _ (by rw [List.getElem?_map,h];rfl)
theorem dd {R:List Ce} {i:Nat} {a:Ce} (h:R[i]?=some a) (b:Ce):V0 (R.set i b)+eI a=V0 R+eI b:=by
 unfold V0
 rw [List.map_set]
 exact Sd _ _ _ _ (by rw [List.getElem?_map,h];rfl)
theorem Qh {l:List Int} (h:∀x∈l,0≤x):0≤l.sum:=by
 induction l with
 | nil=>simp
 | cons a l ih=>
   have h1:=h a (List.mem_cons_self ..)
   have h2:=ih fun x hx=>h x (List.mem_cons_of_mem _ hx)
   simp;omega
theorem de {l:List Int} (h:∀x∈l,x≤14):l.sum≤14*(l.length:Int):=by
 induction l with
 | nil=>simp
 | cons a l ih=>
   have h1:=h a (List.mem_cons_self ..)
   have h2:=ih fun x hx=>h x (List.mem_cons_of_mem _ hx)
   simp;omega
structure RwI (n:Nat) (D B:Int) (z o:Nat→Prop) (R:List Ce):Prop where
 len:R.length=n
 rng:∀c∈R,0≤c.d∧c.d≤D∧0≤c.f
 bd:∀c∈R,c.f+150*Sc R≤B
 zer:∀i,i < n→(R[i]?=some ⟨0,0,true⟩↔z i)
 way:∀i,i < n→o i→∃c,R[i]?=some c∧c.ok=true
section
variable {n:Nat} {D B:Int} {z o:Nat→Prop} {R:List Ce}
theorem RwI.sg (h:RwI n D B z o R):0≤Sc R:=by
 unfold Sc
 refine Qh fun x hx=>?_
 obtain ⟨c,hc,rfl⟩:=List.mem_map.1 hx
 have:=h.rng c hc
 unfold Sp
 split<;>omega
theorem RwI.fb (h:RwI n D B z o R) {c:Ce} (hc:c∈R):c.f≤B:=by
 have h1:=h.bd c hc
 have h2:=h.sg
 omega
theorem RwI.mu (h:RwI n D B z o R):0≤V0 R:=by
 unfold V0
 refine Qh fun x hx=>?_
 obtain ⟨c,hc,rfl⟩:=List.mem_map.1 hx
 have:=h.rng c hc
 unfold eI
 split<;>omega
theorem RwI.put (h:RwI n D B z o R) (hD:D≤13) (hB:B≤10000000) {i t:Nat} {c a:Ce} {s:Int} (ht:R[t]?=some c) (hi:R[i]?=some a) (hs:1≤s∧s≤150) (hb:Ip a c.d (c.f+s)=true):
 RwI n D B z o (R.set i ⟨c.d,c.f+s,true⟩)∧V0 (R.set i ⟨c.d,c.f+s,true⟩) < V0 R:=by
 have hc:=h.rng c (List.mem_of_getElem? ht)
 have ha:=h.rng a (List.mem_of_getElem? hi)
 have hcb:=h.bd c (List.mem_of_getElem? ht)
 have hab:=h.bd a (List.mem_of_getElem? hi)
 have hsg:=h.sg
 have s1:=Qg hi ⟨c.d,c.f+s,true⟩
 have m1:=dd hi ⟨c.d,c.f+s,true⟩
 have e1:Sp ⟨c.d,c.f+s,true⟩=c.d:=rfl
 have e2:eI ⟨c.d,c.f+s,true⟩=c.d*100000000+(c.f+s):=rfl
 have hil:i < R.length:=(List.getElem?_eq_some_iff.1 hi).1
 have key:(c.d < Sp a∨(a.ok=true∧c.d=a.d∧c.f+s < a.f))∧(a.ok=true→Sp a=a.d)∧(a.ok=false→Sp a=14∧eI a=1400000000)∧(a.ok=true→eI a=a.d*100000000+a.f):=by
  unfold Ip Se at hb
  unfold Sp eI
  cases hk:a.ok
  ·simp;omega
  ·rw [hk] at hb
   simp at hb ⊢
   omega
 obtain ⟨k1,k2,k3,k4⟩:=key
 rw [e1] at s1
 rw [e2] at m1
 have hnew:(c.f+s)+150*Sc (R.set i ⟨c.d,c.f+s,true⟩)≤B∧Sc (R.set i ⟨c.d,c.f+s,true⟩)≤Sc R:=by
  rcases k1 with k1|⟨k,k1,k5⟩
  ·omega
  ·have:=k2 k
   omega
 refine ⟨⟨by rw [List.length_set];exact h.len,fun x hx=>?_,fun x hx=>?_,fun j hj=>?_,fun j hj ho=>?_⟩,?_⟩
 ·rcases List.mem_or_eq_of_mem_set hx with hx|rfl
  ·exact h.rng x hx
  ·show 0≤c.d∧c.d≤D∧0≤c.f+s
   omega
 ·rcases List.mem_or_eq_of_mem_set hx with hx|rfl
  ·have:=h.bd x hx
   omega
  ·exact hnew.1
 ·rw [List.getElem?_set]
  split
  ·rename_i e
   subst e
   have hz:=h.zer i hj
   rw [hi] at hz
   constructor
   ·intro e
    simp only [Option.some.injEq,Ce.mk.injEq] at e
    omega
   ·intro e
    have:=hz.2 e
    simp only [Option.some.injEq] at this
    subst this
    simp only at k1
    rcases k1 with k1|⟨_,_,k1⟩
    ·have:Sp ⟨0,0,true⟩=0:=rfl
     omega
    ·omega
  ·exact h.zer j hj
 ·rw [List.getElem?_set]
  split
  ·rename_i e
   subst e
   exact ⟨_,rfl,rfl⟩
  ·exact h.way j hj ho
 ·have hf:c.f+s≤10000000:=by
   have h0:0≤Sc (R.set i ⟨c.d,c.f+s,true⟩):=by
    rcases k1 with k1|⟨k,k1,k5⟩
    ·cases hk:a.ok
     ·have:=k3 hk
      have:Sc R - 14≥0∨True:=.inr trivial
      have h9:0≤Sc (R.set i ⟨0,0,true⟩):=by
       unfold Sc
       refine Qh fun x hx=>?_
       obtain ⟨q,hq,rfl⟩:=List.mem_map.1 hx
       rcases List.mem_or_eq_of_mem_set hq with hq|rfl
       ·have:=h.rng q hq
        unfold Sp
        split<;>omega
       ·exact Int.le_refl _
      have h8:=Qg hi ⟨0,0,true⟩
      have:Sp ⟨0,0,true⟩=0:=rfl
      omega
     ·have:=k2 hk
      have h9:0≤Sc (R.set i ⟨0,0,true⟩):=by
       unfold Sc
       refine Qh fun x hx=>?_
       obtain ⟨q,hq,rfl⟩:=List.mem_map.1 hx
       rcases List.mem_or_eq_of_mem_set hq with hq|rfl
       ·have:=h.rng q hq
        unfold Sp
        split<;>omega
       ·exact Int.le_refl _
      have h8:=Qg hi ⟨0,0,true⟩
      have:Sp ⟨0,0,true⟩=0:=rfl
      omega
    ·have:=k2 k
     omega
   omega
  rcases k1 with k1|⟨k,k1,k5⟩
  ·cases hk:a.ok
   ·have:=k3 hk
    omega
   ·have:=k2 hk
    have:=k4 hk
    omega
  ·have:=k4 k
   omega
end
def PJ (R:List Ce) (i n:Nat):Prop:=∀j,i≤j→j < n→R[j]?=some .non
theorem RwI.mk0 {n:Nat} {D B:Int} {z o:Nat→Prop} {R:List Ce} (hl:R.length=n) (hn:n≤40) (hD0:D≤13) (hr:∀c∈R,0≤c.d∧c.d≤D∧0≤c.f∧c.f≤B) (hz:∀i,i < n→(R[i]?=some ⟨0,0,true⟩↔z i)) (hw:∀i,i < n→o i→∃c,R[i]?=some c∧c.ok=true):RwI n D (B+84000) z o R where
 len:=hl
 rng:=fun c hc=>by have:=hr c hc;omega
 bd:=fun c hc=>by
  have h1:=hr c hc
  have h2:Sc R≤14*((R.map Sp).length:Int):=by
   unfold Sc
   refine de fun x hx=>?_
   obtain ⟨q,hq,rfl⟩:=List.mem_map.1 hx
   have:=hr q hq
   unfold Sp
   split<;>omega
  rw [List.length_map,hl] at h2
  omega
 zer:=hz
 way:=hw
structure FlR (N:List (List Int)) (n:Nat) (D B:Int) (z o:Nat→Prop) (R0 R:List Ce) (more:Bool) (i k:Nat):Prop where
 row:RwI n D B z o R
 mu:V0 R≤V0 R0∧(more=true→V0 R < V0 R0)
 shut:more=false→∀(i' k':Nat) (to:Int) (c:Ce),i' < n→(i' < i∨(i'=i∧k' < k))→(N.getD i' [])[k']?=some to→0≤to→R[to.toNat]?=some c→c.ok=true→∃a,R[i']?=some a∧a.ok=true
section
variable {N:List (List Int)} {n:Nat} {D B:Int} {z o:Nat→Prop} {R0 R:List Ce} {more:Bool} {i k:Nat}
theorem FlR.start (h:RwI n D B z o R):FlR N n D B z o R R false 0 0:=⟨h,⟨Int.le_refl _,by simp⟩,fun _ i' k' to c _ h=>by omega⟩
theorem FlR.pass (h:FlR N n D B z o R0 R more i k) (hp:∀to c,(N.getD i [])[k]?=some to→0≤to→R[to.toNat]?=some c→c.ok=true→∃a,R[i]?=some a∧a.ok=true):FlR N n D B z o R0 R more i (k+1):=
 ⟨h.row,h.mu,fun hm i' k' to c h1 h2 h3 h4 h5 h6=>by
   by_cases e:i'=i∧k'=k
   ·obtain ⟨rfl,rfl⟩:=e
    exact hp to c h3 h4 h5 h6
   ·exact h.shut hm i' k' to c h1 (by omega) h3 h4 h5 h6⟩
theorem FlR.put (h:FlR N n D B z o R0 R more i k) (hD:D≤13) (hB:B≤10000000) {t:Nat} {c a:Ce} {s:Int} (ht:R[t]?=some c) (hi:R[i]?=some a) (hs:1≤s∧s≤150) (hb:Ip a c.d (c.f+s)=true) (k':Nat):FlR N n D B z o R0 (R.set i ⟨c.d,c.f+s,true⟩) true i k':=by
 have h1:=h.row.put hD hB ht hi hs hb
 exact ⟨h1.1,⟨by have:=h.mu.1;omega,fun _=>by have:=h.mu.1;omega⟩,fun e=>by cases e⟩
theorem FlR.next (h:FlR N n D B z o R0 R more i k) (hk:∀k',k≤k'→(N.getD i [])[k']?=none):FlR N n D B z o R0 R more (i+1) 0:=
 ⟨h.row,h.mu,fun hm i' k' to c h1 h2 h3 h4 h5 h6=>by
   by_cases e:i'=i
   ·subst e
    by_cases hk':k' < k
    ·exact h.shut hm i' k' to c h1 (.inr ⟨rfl,hk'⟩) h3 h4 h5 h6
    ·rw [hk k' (by omega)] at h3
     cases h3
   ·exact h.shut hm i' k' to c h1 (by omega) h3 h4 h5 h6⟩
def aw (N:List (List Int)) (n:Nat) (R:List Ce):Prop:=∀(i:Nat) (to:Int),i < n→to∈N.getD i []→0≤to→(∃c,R[to.toNat]?=some c∧c.ok=true)→∃a,R[i]?=some a∧a.ok=true
theorem FlR.done (h:FlR N n D B z o R0 R false i 0) (hi:n≤i):aw N n R:=fun i' to h1 h2 h3 ⟨c,h4,h5⟩=>by
 obtain ⟨k',hk⟩:=List.mem_iff_getElem?.1 h2
 exact h.shut rfl i' k' to c h1 (.inl (by omega)) hk h3 h4 h5
end
def Ki (N:List (List Int)) (R1:List Ce) (kid:Int) (j:Nat):Ce:=if 0≤(N.getD j []).getD kid.toNat (-1)∧(R1.getD ((N.getD j []).getD kid.toNat (-1)).toNat .non).ok=true then ⟨(R1.getD ((N.getD j []).getD kid.toNat (-1)).toNat .non).d,(R1.getD ((N.getD j []).getD kid.toNat (-1)).toNat .non).f,true⟩ else .non
def GK (N:List (List Int)) (R1:List Ce) (kid:Int) (j:Nat):Ce:=if (R1.getD j .non).ok=true∧Ip (Ki N R1 kid j) ((R1.getD j .non).d+1) (R1.getD j .non).f=true then ⟨(R1.getD j .non).d+1,(R1.getD j .non).f,true⟩ else Ki N R1 kid j
theorem gD {N:List (List Int)} {n:Nat} {D B:Int} {z o:Nat→Prop} {R1 R:List Ce} {kid:Int} (h1:RwI n D B z o R1) (hN:N.length=n) (hn:n≤40) (hto:∀r∈N,∀y∈r,y < n) (hD:D≤12) (hall:∀i,i < n→o i) (hR:R.length=n) (hx:∀j,j < n→R[j]?=some (GK N R1 kid j)):
 RwI n (D+1) (B+84000) (fun j=>0≤(N.getD j []).getD kid.toNat (-1)∧z ((N.getD j []).getD kid.toNat (-1)).toNat) o R:=by
 have hlt:∀j,(N.getD j []).getD kid.toNat (-1) < n∨(N.getD j []).getD kid.toNat (-1) < 0:=by
  intro j
  rw [List.getD_eq_getElem?_getD,List.getD_eq_getElem?_getD]
  cases hj:N[j]? with
  | none=>right;simp
  | some r=>
    rw [Option.getD_some]
    cases hy:r[kid.toNat]? with
    | none=>right;simp
    | some y=>left;exact hto r (List.mem_of_getElem? hj) y (List.mem_of_getElem? hy)
 have get:∀j,j < n→∃c,R1[j]?=some c∧R1.getD j .non=c∧c.ok=true∧0≤c.d∧c.d≤D∧0≤c.f∧c.f≤B:=by
  intro j hj
  obtain ⟨c,hc,hk⟩:=h1.way j hj (hall j hj)
  have hm:=List.mem_of_getElem? hc
  have:=h1.rng c hm
  have:=h1.fb hm
  exact ⟨c,hc,by rw [List.getD_eq_getElem?_getD,hc];rfl,hk,by omega⟩
 have via:∀j,j < n→0≤(Ki N R1 kid j).d∧(Ki N R1 kid j).d≤D∧0≤(Ki N R1 kid j).f∧(Ki N R1 kid j).f≤B∧(Ki N R1 kid j=⟨0,0,true⟩↔0≤(N.getD j []).getD kid.toNat (-1)∧z ((N.getD j []).getD kid.toNat (-1)).toNat):=by
  intro j hj
  obtain ⟨c0,_,_,_,_⟩:=get j hj
  have hl:=hlt j
  unfold Ki
  generalize (N.getD j []).getD kid.toNat (-1)=to at*
  by_cases h0:0≤to
  ·obtain ⟨c,g1,g2,g3,g4⟩:=get to.toNat (by omega)
   rw [g2,if_pos ⟨h0,g3⟩]
   refine ⟨g4.1,g4.2.1,g4.2.2.1,g4.2.2.2,?_⟩
   have hz:=h1.zer to.toNat (by omega)
   rw [g1] at hz
   rw [←hz]
   obtain ⟨cd,cf,ck⟩:=c
   simp only at g3
   subst g3
   simp [h0]
  ·rw [if_neg (fun h=>h0 h.1)]
   refine ⟨Int.le_refl _,by show (0:Int)≤D;omega,Int.le_refl _,by show (0:Int)≤B;omega,?_⟩
   constructor
   ·intro e;cases e
   ·rintro ⟨h,_⟩;exact absurd h h0
 refine RwI.mk0 hR hn (by omega) (fun c hc=>?_) (fun j hj=>?_) (fun j hj _=>?_)
 ·obtain ⟨j,hj⟩:=List.mem_iff_getElem?.1 hc
  have hjn:j < n:=by rw [←hR];exact (List.getElem?_eq_some_iff.1 hj).1
  rw [hx j hjn] at hj
  simp only [Option.some.injEq] at hj
  subst hj
  obtain ⟨c,g1,g2,g3,g4⟩:=get j hjn
  have hv:=via j hjn
  unfold GK
  rw [g2]
  split
  ·show 0≤c.d+1∧c.d+1≤D+1∧0≤c.f∧c.f≤B
   omega
  ·omega
 ·rw [hx j hj]
  obtain ⟨c,g1,g2,g3,g4⟩:=get j hj
  have hv:=via j hj
  rw [←hv.2.2.2.2]
  unfold GK
  rw [g2]
  split
  ·rename_i hb
   constructor
   ·intro e
    simp only [Option.some.injEq,Ce.mk.injEq] at e
    omega
   ·intro e
    rw [e] at hb
    have hb:=hb.2
    unfold Ip Se at hb
    simp at hb
    omega
  ·simp
 ·rw [hx j hj]
  obtain ⟨c,g1,g2,g3,g4⟩:=get j hj
  refine ⟨_,rfl,?_⟩
  unfold GK
  rw [g2]
  split
  ·rfl
  ·rename_i hb
   by_cases hv:(Ki N R1 kid j).ok=true
   ·exact hv
   ·exfalso
    refine hb ⟨g3,?_⟩
    unfold Ip
    simp [hv]
end Go.Proofs.YtkaiffheakalmaaGreatDoor
