/- Copied, stripped. No conditions. -/
import Derived.Test.YtkaiffheakalmaaGreatDoorU9TlZf
set_option linter.unusedSimpArgs false
set_option linter.unusedVariables false
set_option maxRecDepth 100000
namespace Go.Proofs.YtkaiffheakalmaaGreatDoor
open Go.RowKit
theorem Zo {S:Ps} (hF:S.F.length≤4):CM 7 (Bj S)=true:=by
  unfold Bj Qw fo
  simp only [CM,Ob.low,Eu,Tp hF,B9,V.low,Bool.true_and,Bool.and_true]
  rfl
theorem KQ {C:Ctx} {vs:List Value} (hE:EOk Tryz.tt C) (k t:Int) (P:List V) (o0 o1 o2 o3 o4 o5 o6:List V) {S':Ps} (hF:S'.F.length≤4) (fi la:List Int) (b:Bool) {u:List (Nat×V)} (hu:Al u 4= .ptr 9 0 0):
    HRetN Tryz.tt C Tryz.f52 [.ptr 0 0 0,.agg [.int .i64 k,.int .i64 t,.lst P]] [.row 5 o0,.row 1 o1,.row 1 o2,.row 1 o3,.row 1 o4,.row 1 o5,.row 1 o6] vs [0] (fun r o=>r=QJ ⟨fi,la,b⟩∧o=Bj S')
      ⟨Tryz.f52.ntmps,u,(Bj S').map some++[some (.hid vs [.ptr 0 0 0,.agg [.int .i64 k,.int .i64 t,.lst P]]),some (.row 1 (fi.map (V.int .i64))),some (.row 3 [.agg [.sl 8 0 fi.length,.sl 11 0 la.length,.bool b]]),some (.row 3 [.agg [.sl 8 0 fi.length,.sl 11 0 la.length,.bool b]]),some (.row 1 (la.map (V.int .i64)))]⟩:=by
  refine Aq (AO 8 rfl (AE fi) (AO 11 (z:=1) (els:=la.map (V.int .i64)) ?_ (AE la) (Ax ((Bj S').map some++[some (.hid vs [.ptr 0 0 0,.agg [.int .i64 k,.int .i64 t,.lst P]]),none,some (.row 3 [.agg [.lst (fi.map (V.int .i64)),.lst (la.map (V.int .i64)),.bool b]]),some (.row 3 [.agg [.lst (fi.map (V.int .i64)),.lst (la.map (V.int .i64)),.bool b]]),none]) ?_ (Gh [4] (σ':=⟨Tryz.f52.ntmps,[(4,.ptr 9 0 0)],(Bj S').map some++[some (.hid vs [.ptr 0 0 0,.agg [.int .i64 k,.int .i64 t,.lst P]]),none,some (.row 3 [.agg [.lst (fi.map (V.int .i64)),.lst (la.map (V.int .i64)),.bool b]]),some (.row 3 [.agg [.lst (fi.map (V.int .i64)),.lst (la.map (V.int .i64)),.bool b]]),none]⟩) ?_ (A2 hE ?_)))))
  . show some (some (Ob.row 1 (An 8 (fi.map (V.int .i64)) (la.map (V.int .i64)))))=_
    rw [AZ _ _ (AE la)]
  . conv=>whnf
    have e1:(V.sl 8 0 fi.length).frz 8 (fi.map (V.int .i64))= .lst (fi.map (V.int .i64)):=BY 8 _ (by simp)
    have e2:(V.sl 11 0 la.length).frz 11 (la.map (V.int .i64))= .lst (la.map (V.int .i64)):=BY 11 _ (by simp)
    have e3:(V.sl 11 0 la.length).frz 8 (fi.map (V.int .i64))= .sl 11 0 la.length:=Er _ (by decide)
    have f1:=Ik (F:=S'.F) hF (id:=8) (by decide)
    have f2:=Ik (F:=S'.F) hF (id:=11) (by decide)
    have fa:∀id els l,(V.agg l).frz id els= .agg (An id els l):=fun _ _ _=>by simp only [V.frz]
    have fl:∀id els l,(V.lst l).frz id els= .lst l:=fun _ _ _=>by simp only [V.frz]
    simp only [An,fa,e1,e2,e3,fl,AZ _ _ (AE _),f1,f2]
    rfl
  . show (⟨_,A1 [4] (FQ 11 _ (FQ 8 _ u)),_⟩:ES)=_
    have:Al (FQ 11 (la.map (V.int .i64)) (FQ 8 (fi.map (V.int .i64)) u)) 4= .ptr 9 0 0:=by rw [Bb,Bb,hu];rfl
    simp only [A1,List.map_cons,List.map_nil,this]
  . conv=>whnf
    exact ⟨rfl,rfl,rfl,Zo hF,rfl,rfl⟩
def Og (x:Ex) (S:Ps):Prop:=HFn Tryz.prog 52 [.ptr 0 0 0,Ai x] (Bj S) [0] (fun r o=>r=QJ (BO x S).1∧o=Bj (BO x S).2)
set_option maxHeartbeats 16000000 in
theorem U3 (k t:Int) (ps:List Ex) (S:Ps) (hS:OkS S) (hk1:k≠1) (hk2:k≠2) (h4:(Cn k ps ⟨[],[],false⟩ S).2.T.length≤4) (ih:∀y∈ps,∀S,OkS S→(BO y S).2.T.length≤4→Og y S):
    HFn Tryz.prog 52 [.ptr 0 0 0,.agg [.int .i64 k,.int .i64 t,.lst (ps.map Ai)]] (Bj S) [0] (fun r o=>r=QJ (BO (.mk k t ps) S).1∧o=Bj (BO (.mk k t ps) S).2):=by
  have hpm:(ps.map Ai).length=ps.length:=by simp
  have hl:=hS.len
  have e0:BO (.mk k t ps) S=OS k (Cn k ps ⟨[],[],false⟩ S):=by rw [BO,if_neg hk1,decide_eq_false hk2]
  rw [e0]
  clear e0
  have h40:S.T.length≤4:=Nat.le_trans ((Rr _).2 k ps S _ (Nat.le_refl _)) h4
  refine HO (T:=Tryz.tt) Tryz.func52 rfl AR AB ?_ ?_ fun C vs hC hE=>?_
  . kernel_rfl
  . exact Nat.le_of_ble_eq_true (by kernel_rfl)
  conv=>whnf
  repeat' (first|(refine AM (by first|assumption|omega) ?_;conv=>whnf)|(intro hlen;conv=>whnf))
  refine Ae (fun ((j,out,Sx):Nat×Pt×Ps)=>⟨140,[(0,.ptr 0 0 0),(3,.rp [.int .i64 k,.int .i64 t,.lst (ps.map Ai)]),(4,.ptr 9 0 0),(6,.ptr 10 0 0),(48,.lst (ps.map Ai)),(49,.int .i64 (ps.map Ai).length),(50,.int .i64 j)],(Bj Sx).map some++[some (.hid vs [.ptr 0 0 0,.agg [.int .i64 k,.int .i64 t,.lst (ps.map Ai)]]),some (.row 1 (out.first.map (V.int .i64))),some (.row 3 [.agg [.nils,.nils,.bool false]]),some (.row 3 [.agg [.sl 8 0 out.first.length,.sl 11 0 out.last.length,.bool out.none]]),some (.row 1 (out.last.map (V.int .i64)))]⟩)
    (fun (j,out,Sx)=>j≤ps.length∧Cn k (ps.take j) ⟨[],[],false⟩ S=(out,Sx)) (fun (j,_,_)=>ps.length - j) (0,⟨[],[],false⟩,S) hE ?_ ?_ ⟨Nat.zero_le _,rfl⟩ ?_
  . kernel_rfl
  . refine AO 8 (z:=3) (els:=[.agg [.int .i64 k,.int .i64 t,.lst (ps.map Ai)]]) rfl ⟨⟨trivial,trivial,trivial,trivial⟩,trivial⟩ (CY 10 0 1 rfl rfl (CY 10 1 1 rfl rfl (AU [0,3,4,6,48,49,50] ?_)))
    conv=>whnf
    simp only [Ik (F:=S.F) (by omega) (Nat.le_refl 8),AZ _ _ (AE _)]
    rfl
  rintro ⟨j,⟨fi,la,no⟩,Sx⟩ ⟨hj,hA⟩
  have h00:OkP S ⟨[],[],false⟩ S:=⟨hS,Nat.le_refl _,fun x hx=>(List.not_mem_nil hx).elim,fun x hx=>(List.not_mem_nil hx).elim,(by simp),(by simp)⟩
  have hP:=Tm k (ps.take j) h00
  have hP4:=HC k ps S ⟨[],[],false⟩ j
  rw [hA] at hP hP4
  have hPl:Sx.F.length=Sx.T.length:=hP.ok.len
  have hP4':Sx.T.length≤4:=Nat.le_trans hP4 h4
  have hfl:fi.length≤4:=by have:=hP.fl;simp only at this hP4;omega
  have hll:la.length≤4:=by have:=hP.ll;simp only at this hP4;omega
  have hfm:(fi.map (V.int .i64)).length=fi.length:=by simp
  have hlm:(la.map (V.int .i64)).length=la.length:=by simp
  by_cases hlt:j < ps.length
  . obtain ⟨y,hy⟩:∃y,ps[j]?=some y:=⟨_,List.getElem?_eq_getElem hlt⟩
    have gy:(ps.map Ai)[j]?=some (Ai y):=by rw [List.getElem?_map,hy];rfl
    have hnx:=JQ (k:=k) (ps:=ps) (j:=j) (y:=y) ⟨[],[],false⟩ S hy
    rw [hA] at hnx
    have hQ4:(BO y Sx).2.T.length≤4:=by
      have:=HC k ps S ⟨[],[],false⟩ (j+1)
      rw [hnx,Rq] at this
      exact Nat.le_trans this h4
    have hc:=ih y (List.mem_of_getElem? hy) Sx hP.ok hQ4
    have hQ:=XP y hP.ok
    unfold Og at hc
    generalize BO y Sx=q at hnx hQ4 hc hQ
    obtain ⟨⟨qf,ql,qn⟩,S2⟩:=q
    have hQl:S2.F.length=S2.T.length:=hQ.ok.len
    have hQ4':S2.T.length≤4:=hQ4
    have hqf:qf.length≤4:=by have:=hQ.fl;simp only at this hQ4;omega
    have hql:ql.length≤4:=by have:=hQ.ll;simp only at this hQ4;omega
    have hqfm:(qf.map (V.int .i64)).length=qf.length:=by simp
    have hqlm:(ql.map (V.int .i64)).length=ql.length:=by simp
    have hxs:FC 7 (fun j=>j) [V.ptr 0 0 0,Ai y] [V.ptr 0 0 0,Ai y]:=⟨_,_,rfl,⟨by decide,rfl⟩,_,_,rfl,En _ (Fx [y]).1,rfl⟩
    have hx0:Sx.F.length≤4:=by omega
    have hx2:S2.F.length≤4:=by omega
    unfold GJ at hnx
    rw [if_pos hk2] at hnx
    simp only at hnx
    have k8:=CN (F:=S2.F) (n:=8) (by omega)
    have k11:=CN (F:=S2.F) (n:=11) (by omega)
    have k12:=CN (F:=S2.F) (n:=12) (by omega)
    have k13:=CN (F:=S2.F) (n:=13) (by omega)
    have tf:List.take fi.length (List.drop 0 (fi.map (V.int .i64)))=fi.map (V.int .i64):=by rw [List.drop_zero,List.take_of_length_le (by simp)]
    have tl:List.take la.length (List.drop 0 (la.map (V.int .i64)))=la.map (V.int .i64):=by rw [List.drop_zero,List.take_of_length_le (by simp)]
    have tqf:List.take qf.length (List.drop 0 (qf.map (V.int .i64)))=qf.map (V.int .i64):=by rw [List.drop_zero,List.take_of_length_le (by simp)]
    have tql:List.take ql.length (List.drop 0 (ql.map (V.int .i64)))=ql.map (V.int .i64):=by rw [List.drop_zero,List.take_of_length_le (by simp)]
    cases no
    all_goals cases qn
    all_goals
      conv=>whnf
      repeat' (first|(refine AN (by first|assumption|omega) ?_;conv=>whnf)|(refine AM (by first|assumption|omega) ?_;conv=>whnf)|(refine Af (by first|assumption|omega) ?_;conv=>whnf)|(refine AS (by omega) ?_;conv=>whnf)|(refine AQ (by assumption) ?_;conv=>whnf)|(refine Lx hc hC Dn rfl hxs (Ey rfl) hx0 hx2 ⟨trivial,trivial,trivial,trivial⟩ ?_;conv=>whnf)|(refine Dg hE ⟨0,[(0,none),(1,none),(2,none),(3,none),(5,none),(6,none),(7,none),(8,none)],some 4,[5,6,7,8],[[],[6],[5,6],[8],[6,8],[5,6,8],[7,8],[6,7,8],[5,6,7,8]],[]⟩ [⟨0,[(10,none)],some 9,[10],[[],[10]],[]⟩,⟨0,[],some 11,[],[[]],[]⟩,⟨0,[(12,none)],some 13,[],[[]],[]⟩] [[]] [5,6,7,8] 4 ?_ ?_;decide +kernel;conv=>whnf)|(refine EqL.mk rfl rfl)|(refine ⟨Cm _,?_⟩;conv=>whnf)|(refine Af ⟨?_,?_,?_⟩ ?_;(simp only [AT]<;>omega);(show _+_≤9223372036854775807;simp [AT];omega);(show (_+_)*_≤140737488355328;simp [AT];omega);conv=>whnf)|(refine Cy ?_;conv=>whnf)|(refine JD ?_ ?_<;>conv=>whnf))
      all_goals
        refine AL [0,3,4,6,48,49,50] [12,13] (j+1,⟨fi++qf,la++ql,_⟩,S2) ⟨hlt,hnx⟩ (by show ps.length - (j+1) < ps.length - j;omega) ?_
        conv=>whnf
        simp only [AA _ (AE _),BD,k8,k11,k12,k13,tf,tl,tqf,tql,List.map_append,List.length_append,List.length_map]
        rfl
  . obtain rfl:j=ps.length:=by omega
    rw [List.take_length] at hA
    rw [hA] at h4 ⊢
    have hx0:Sx.F.length≤4:=by omega
    have hB:=hP.ok.bd
    have hfi:∀x∈fi,0≤x∧x < (Sx.F.length:Int):=hP.fi
    have hla:∀x∈la,0≤x∧x < (Sx.F.length:Int):=hP.la
    have hlk:=Rs Sx la fi hx0 hla hfi hB
    have hlF:(Au la fi Sx.F).length≤4:=by rw [CA];exact hx0
    have hxs:FC 9 (U0 11 8) [V.ptr 0 0 0,.sl 7 0 la.length,.sl 8 0 fi.length] [V.ptr 0 0 0,.sl 11 0 la.length,.sl 8 0 fi.length]:=⟨_,_,rfl,⟨by decide,rfl⟩,_,_,rfl,⟨by decide,rfl⟩,_,_,rfl,⟨by decide,rfl⟩,rfl⟩
    unfold OS
    by_cases h45:k=4∨k=5
    . rw [if_pos h45]
      rcases h45 with rfl|rfl
      all_goals cases no
      all_goals
        conv=>whnf
        repeat' (first|(refine AN (by first|assumption|omega) ?_;conv=>whnf)|(refine AM (by first|assumption|omega) ?_;conv=>whnf)|(refine U2 (S1:=⟨Sx.T,Au la fi Sx.F⟩) 11 8 (by decide) (by decide) (by decide) hlk hC E4 rfl hxs (Ey rfl) rfl rfl hx0 hlF trivial ?_;conv=>whnf))
        refine Aq (B8 [4] (Ax ((Bj ⟨Sx.T,Au la fi Sx.F⟩).map some++[some (.hid vs [.ptr 0 0 0,.agg [.int .i64 _,.int .i64 t,.lst (ps.map Ai)]]),some (.row 1 (fi.map (V.int .i64))),some (.row 3 [.agg [.sl 8 0 fi.length,.sl 11 0 la.length,.bool _]]),some (.row 3 [.agg [.sl 8 0 fi.length,.sl 11 0 la.length,.bool _]]),some (.row 1 (la.map (V.int .i64)))]) ?_ (AP (KQ hE _ t (ps.map Ai) _ _ _ _ _ _ _ hlF fi la _ rfl))))
        conv=>whnf
        simp only [AA _ (AE _)]
        rfl
    . rw [if_neg h45]
      have e4:decide (k=4)=false:=decide_eq_false fun h=>h45 (.inl h)
      have hk4:k≠4:=fun h=>h45 (.inl h)
      have hk5:k≠5:=fun h=>h45 (.inr h)
      rw [e4]
      by_cases h6:k=6
      . subst h6
        all_goals cases no
        all_goals
          conv=>whnf
          repeat' (first|(refine AN (by first|assumption|omega) ?_;conv=>whnf)|(refine AM (by first|assumption|omega) ?_;conv=>whnf))
          refine Aq (B8 [4] (Ax ((Bj Sx).map some++[some (.hid vs [.ptr 0 0 0,.agg [.int .i64 _,.int .i64 t,.lst (ps.map Ai)]]),some (.row 1 (fi.map (V.int .i64))),some (.row 3 [.agg [.sl 8 0 fi.length,.sl 11 0 la.length,.bool _]]),some (.row 3 [.agg [.sl 8 0 fi.length,.sl 11 0 la.length,.bool _]]),some (.row 1 (la.map (V.int .i64)))]) ?_ (AP (KQ hE _ t (ps.map Ai) _ _ _ _ _ _ _ hx0 fi la _ rfl))))
          conv=>whnf
          simp only [AA _ (AE _)]
          rfl
      . rw [decide_eq_false h6]
        all_goals cases no
        all_goals
          conv=>whnf
          repeat' (refine AM (by first|assumption|omega) ?_;conv=>whnf)
          refine Aq (B8 [4] (Ax ((Bj Sx).map some++[some (.hid vs [.ptr 0 0 0,.agg [.int .i64 _,.int .i64 t,.lst (ps.map Ai)]]),some (.row 1 (fi.map (V.int .i64))),some (.row 3 [.agg [.sl 8 0 fi.length,.sl 11 0 la.length,.bool _]]),some (.row 3 [.agg [.sl 8 0 fi.length,.sl 11 0 la.length,.bool _]]),some (.row 1 (la.map (V.int .i64)))]) ?_ (AP (KQ hE _ t (ps.map Ai) _ _ _ _ _ _ _ hx0 fi la _ rfl))))
          conv=>whnf
          simp only [AA _ (AE _)]
          rfl
end Go.Proofs.YtkaiffheakalmaaGreatDoor
