/- Joined. No conditions. -/
import Derived.Test.YtkaiffheakalmaaGreatDoorJ9bd
set_option linter.unusedSimpArgs false
set_option linter.unusedVariables false
set_option maxRecDepth 100000
namespace Go.Proofs.YtkaiffheakalmaaGreatDoor
section
open Go.RowKit
theorem fP {F:List (List Int)} {a b:Nat} (h:F.length+3≤a):G3 a b (CU F)=CU F:=by
 unfold CU
 have:∀l:List Nat,(∀j∈l,j < F.length)→G3 a b (l.map fun j=>V.sl (3+j) 0 (AE F j).length)=l.map fun j=>V.sl (3+j) 0 (AE F j).length:=by
  intro l
  induction l with
  | nil=>intro _;rfl
  | cons j l ih=>
    intro hj
    have h1:=hj j (by simp)
    simp only [List.map_cons,G3,V.mv]
    rw [ih fun k hk=>hj k (by simp [hk])]
    unfold Oe
    rw [if_neg (by omega)]
 exact this _ fun j hj=>List.mem_range.1 hj
def QH (M:List Nat):List (Nat×V)→List (Nat×V)
 | []=>[]
 | (d,x)::u=>(d,Od M x)::QH M u
theorem O3 (M:List Nat):∀u,QH M u=DE M u
 | []=>rfl
 | (d,x)::u=>by
   have:=O3 M u
   unfold DE at this ⊢
   simp only [QH,List.map_cons,this]
def dG (a b:Nat):List (Nat×V)→List (Nat×V)
 | []=>[]
 | (d,x)::u=>(d,x.mv a b)::dG a b u
theorem Vo (a b:Nat):∀u,dG a b u=ep a b u
 | []=>rfl
 | (d,x)::u=>by
   have:=Vo a b u
   unfold ep at this ⊢
   simp only [dG,List.map_cons,this]
def ge (M:List Nat):List (Nat×V)→(List (Nat×V)→Prop)→Prop
 | [],K=>K []
 | (d,x)::u,K=>gX (Od M x) fun x=>ge M u fun u=>K ((d,x)::u)
theorem QI (M:List Nat):∀(u:List (Nat×V)) (K:List (Nat×V)→Prop),ge M u K=K (DE M u)
 | [],K=>rfl
 | (d,x)::u,K=>by
   unfold ge
   rw [Pc,QI M u]
   rfl
theorem Z1 {C:Ctx} {K:ES→Prop} (ks:List Nat) (σ':ES) {n:Nat} {u:List (Nat×V)} {h:List (Option Ob)} (e:(⟨n,Az ks u,h⟩:ES)=σ') (hk:UpE C K σ'):UpE C K ⟨n,u,h⟩:=Bm ks (e▸hk)
theorem SA {C:Ctx} {K:ES→Prop} (id:Nat) {n:Nat} {u:List (Nat×V)} {h:List (Option Ob)} (hk:UpE C K ⟨n,QH [id] u,(BC id h).set id none⟩):UpE C K ⟨n,u,h⟩:=by
 refine BN id ?_
 rw [O3] at hk
 exact hk
theorem SB {C:Ctx} {K:ES→Prop} (a b:Nat) {n:Nat} {o:Ob} {u:List (Nat×V)} {h:List (Option Ob)} (hab:a≠b) (ha:h[a]?=some (some o)) (hn:h[b]?=some none) (hk:UpE C K ⟨n,dG a b u,D5 a b h⟩):UpE C K ⟨n,u,h⟩:=by
 refine Fk a b hab ha hn ?_
 rw [Vo] at hk
 exact hk
theorem Hz {C:Ctx} {P:Program} {f:FuncId} {xs:List V} {S0 S1:Ps} {R0:V} {fop:Operand} {args:List Operand} {K:V→ES→Prop} {σ:ES} (h':List (Option Ob)) (h:HFn P f xs (Bt S0) [0] (fun r o=>r=R0∧o=Bt S1)) (hC:C.P=P) (hb:AB P f=true)
 (he:BO σ fop args=some (f,xs)) (hxs:Fj 7 (fun j=>j) xs xs) (hobj:∀(j:Nat) (o:Ob),(Bt S0)[j]?=some o→σ.heap[j]?=some (some o)) (h0:S0.F.length≤4) (h1:S1.F.length≤4) (hR:R0.nr)
 (e:fH (BL (fun j=>j) (Bt S1) 0 (BG [1,2,3,4,5,6] σ.heap)) fun h=>h=h') (hK:ge [1,2,3,4,5,6] σ.u fun u=>K R0 ⟨σ.n,u,h'⟩):CallN C fop args f xs K σ:=by
 refine NB h hC hb he hxs hobj h0 h1 hR ?_
 rw [QI] at hK
 rw [A7] at e ⊢
 rw [e];exact hK
theorem Gg {C:Ctx} {P:Program} {f:FuncId} {xs0 xs:List V} {S0 S1:Ps} {R0:V} {l:List Int} {fop:Operand} {args:List Operand} {K:V→ES→Prop} {σ:ES} (h':List (Option Ob)) (a:Nat) (ha:7≤a)
 (h:HFn P f xs0 (Bt S0++[.row 1 (l.map (V.int .i64))]) [7,0] (fun r o=>∃o0,(r=R0∧o0=Bt S1)∧o=o0++[.row 1 (l.map (V.int .i64))])) (hC:C.P=P) (hb:AB P f=true)
 (he:BO σ fop args=some (f,xs)) (hxs:Fj 8 (R9 a) xs0 xs) (hobj:∀(j:Nat) (o:Ob),(Bt S0)[j]?=some o→σ.heap[j]?=some (some o)) (hrow:σ.heap[a]?=some (some (.row 1 (l.map (V.int .i64))))) (h0:S0.F.length≤4) (h1:S1.F.length≤4) (hR:R0.nr)
 (e:fH (BL (R9 a) (Bt S1++[.row 1 (l.map (V.int .i64))]) 0 (BG [1,2,3,4,5,6] σ.heap)) fun h=>h=h') (hK:ge [1,2,3,4,5,6] σ.u fun u=>K R0 ⟨σ.n,u,h'⟩):CallN C fop args f xs K σ:=by
 refine XD a ha h hC hb he hxs hobj hrow h0 h1 hR ?_
 rw [QI] at hK
 rw [A7] at e ⊢
 rw [e];exact hK
set_option maxHeartbeats 16000000 in
theorem XG (t:Int) (ps:List Ex) (S:Ps) (hS:OkS S) (h4:(DA 2 ps ⟨[],[],true⟩ S).2.T.length≤4) (ih:∀y∈ps,∀S,OkS S→(BY y S).2.T.length≤4→QG y S):
 HFn Tryz.prog 52 [.ptr 0 0 0,.agg [.int .i64 2,.int .i64 t,.lst (ps.map Ah)]] (Bt S) [0] (fun r o=>r=R8 (BY (.mk 2 t ps) S).1∧o=Bt (BY (.mk 2 t ps) S).2):=by
 have hpm:(ps.map Ah).length=ps.length:=by simp
 have hl:=hS.len
 have e0:BY (.mk 2 t ps) S=QT 2 (DA 2 ps ⟨[],[],true⟩ S):=by rw [BY,if_neg (by decide)];rfl
 rw [e0]
 clear e0
 have h40:S.T.length≤4:=Nat.le_trans ((Tw _).2 2 ps S _ (Nat.le_refl _)) h4
 refine IJ Tryz.func52 fun C vs hC hE=>?_
 conv=>whnf
 repeat' (first|refine A2 ?_|refine A1 ?_|intro hlen)<;>conv=>whnf
 refine Ab (fun ((j,out,Sx):Nat×Pt×Ps)=>⟨140,[(0,.ptr 0 0 0),(3,.rp [.int .i64 2,.int .i64 t,.lst (ps.map Ah)]),(4,.ptr 9 0 0),(6,.ptr 10 0 0),(48,.lst (ps.map Ah)),(49,.int .i64 (ps.map Ah).length),(50,.int .i64 j)],(Bt Sx).map some++[some (.hid vs [.ptr 0 0 0,.agg [.int .i64 2,.int .i64 t,.lst (ps.map Ah)]]),some (.row 1 (out.first.map (V.int .i64))),some (.row 3 [.agg [.nils,.nils,.bool false]]),some (.row 3 [.agg [.sl 8 0 out.first.length,.sl 11 0 out.last.length,.bool out.none]]),some (.row 1 (out.last.map (V.int .i64)))]⟩)
  (fun (j,out,Sx)=>j≤ps.length∧DA 2 (ps.take j) ⟨[],[],true⟩ S=(out,Sx)) (fun (j,_,_)=>ps.length - j) (0,⟨[],[],true⟩,S) hE ?_ ⟨Nat.zero_le _,rfl⟩ ?_
 ·refine AK 8 (z:=3) (els:=[.agg [.int .i64 2,.int .i64 t,.lst (ps.map Ah)]]) rfl ⟨⟨trivial,trivial,trivial,trivial⟩,trivial⟩ (Cw 10 0 1 rfl rfl (Cw 10 1 1 rfl rfl (AP [0,3,4,6,48,49,50] ?_)))
  conv=>whnf
  simp only [Jh (F:=S.F) (by omega) (Nat.le_refl 8),AX _ _ (AJ _)]
  rfl
 rintro ⟨j,⟨fi,la,no⟩,Sx⟩ ⟨hj,hA⟩
 have h00:OkP S ⟨[],[],true⟩ S:=⟨hS,Nat.le_refl _,fun x hx=>(List.not_mem_nil hx).elim,fun x hx=>(List.not_mem_nil hx).elim,(by simp),(by simp)⟩
 have hP:=Vp 2 (ps.take j) h00
 have hP4:=Hy 2 ps S ⟨[],[],true⟩ j
 rw [hA] at hP hP4
 have hPl:Sx.F.length=Sx.T.length:=hP.ok.len
 have hP4':Sx.T.length≤4:=Nat.le_trans hP4 h4
 have hfl:fi.length≤4:=by have:=hP.fl;simp only at this hP4;omega
 have hll:la.length≤4:=by have:=hP.ll;simp only at this hP4;omega
 have hfm:(fi.map (V.int .i64)).length=fi.length:=by simp
 have hlm:(la.map (V.int .i64)).length=la.length:=by simp
 by_cases hlt:j < ps.length
 ·obtain ⟨y,hy⟩:∃y,ps[j]?=some y:=⟨_,List.getElem?_eq_getElem hlt⟩
  have gy:(ps.map Ah)[j]?=some (Ah y):=by rw [List.getElem?_map,hy];rfl
  have hnx:=KV (k:=2) (ps:=ps) (j:=j) (y:=y) ⟨[],[],true⟩ S hy
  rw [hA] at hnx
  have hQ4:(BY y Sx).2.T.length≤4:=by
   have:=Hy 2 ps S ⟨[],[],true⟩ (j+1)
   rw [hnx,Tv] at this
   exact Nat.le_trans this h4
  have hc:=ih y (List.mem_of_getElem? hy) Sx hP.ok hQ4
  have hQ:=Z2 y hP.ok
  unfold QG at hc
  generalize BY y Sx=q at hnx hQ4 hc hQ
  obtain ⟨⟨qf,ql,qn⟩,S2⟩:=q
  have hQl:S2.F.length=S2.T.length:=hQ.ok.len
  have hQ4':S2.T.length≤4:=hQ4
  have hqf:qf.length≤4:=by have:=hQ.fl;simp only at this hQ4;omega
  have hql:ql.length≤4:=by have:=hQ.ll;simp only at this hQ4;omega
  have hqfm:(qf.map (V.int .i64)).length=qf.length:=by simp
  have hqlm:(ql.map (V.int .i64)).length=ql.length:=by simp
  have hxs:Fj 7 (fun j=>j) [V.ptr 0 0 0,Ah y] [V.ptr 0 0 0,Ah y]:=⟨_,_,rfl,⟨by decide,rfl⟩,_,_,rfl,FK _ (Gb [y]).1,rfl⟩
  have hx0:Sx.F.length≤4:=by omega
  have hx2:S2.F.length≤4:=by omega
  unfold Gx at hnx
  rw [if_neg (by decide)] at hnx
  simp only at hnx
  have hB:=hQ.ok.bd
  have hqfi:∀x∈qf,0≤x∧x < (S2.F.length:Int):=hQ.fi
  have hla:∀x∈la,0≤x∧x < (S2.F.length:Int):=fun x hx=>by
   have h1:=hP.la x hx
   have h2:Sx.T.length≤S2.T.length:=hQ.le
   simp only at h1
   omega
  have hlk:=ND S2 la qf hx2 hla hqfi hB
  have hlF:(Au la qf S2.F).length≤4:=by rw [CS];exact hx2
  have hxl:Fj 8 (R9 11) [V.ptr 0 0 0,.sl 7 0 la.length,.lst (qf.map (V.int .i64))] [V.ptr 0 0 0,.sl 11 0 la.length,.lst (qf.map (V.int .i64))]:=⟨_,_,rfl,⟨by decide,rfl⟩,_,_,rfl,⟨by decide,rfl⟩,_,_,rfl,rfl,rfl⟩
  have hk6:∀l:List Int,AF 6 (AF 5 (AF 4 (AF 3 (AF 2 (AF 1 (l.map (V.int .i64)))))))=l.map (V.int .i64):=fun l=>by simp only [AA _ (AJ _)]
  have k8:=Cm (F:=Au la qf S2.F) (n:=8) (by omega)
  have k11:=Cm (F:=Au la qf S2.F) (n:=11) (by omega)
  have k12:=Cm (F:=Au la qf S2.F) (n:=12) (by omega)
  have k13:=Cm (F:=Au la qf S2.F) (n:=13) (by omega)
  have k14:=Cm (F:=Au la qf S2.F) (n:=14) (by omega)
  have mvk:=fP (F:=Au la qf S2.F) (a:=14) (b:=11) (by omega)
  have tf:List.take fi.length (List.drop 0 (fi.map (V.int .i64)))=fi.map (V.int .i64):=by rw [List.drop_zero,List.take_of_length_le (by simp)]
  have tl:List.take la.length (List.drop 0 (la.map (V.int .i64)))=la.map (V.int .i64):=by rw [List.drop_zero,List.take_of_length_le (by simp)]
  have tqf:List.take qf.length (List.drop 0 (qf.map (V.int .i64)))=qf.map (V.int .i64):=by rw [List.drop_zero,List.take_of_length_le (by simp)]
  have tql:List.take ql.length (List.drop 0 (ql.map (V.int .i64)))=ql.map (V.int .i64):=by rw [List.drop_zero,List.take_of_length_le (by simp)]
  cases no
  all_goals cases qn
  ·conv=>whnf
   repeat' (first|refine A2 ?_|refine AO ?_|refine AV ?_|refine Ad ?_|(refine Hz ((Bt S2).map some++[some (.hid vs [.ptr 0 0 0,.agg [.int .i64 2,.int .i64 t,.lst (ps.map Ah)]]),some (.row 1 (fi.map (V.int .i64))),some (.row 3 [.agg [.nils,.nils,.bool false]]),some (.row 3 [.agg [.sl 8 0 fi.length,.sl 11 0 la.length,.bool false]]),some (.row 1 (la.map (V.int .i64))),some (.row 3 [Ah y])]) hc hC EH rfl hxs (FU rfl) hx0 hx2 ⟨trivial,trivial,trivial,trivial⟩ ?_ ?_;((conv=>whnf);simp only [AA _ (AJ _)];rfl))|(refine Gg (S1:=⟨S2.T,Au la qf S2.F⟩) ((Bt ⟨S2.T,Au la qf S2.F⟩).map some++[some (.hid vs [.ptr 0 0 0,.agg [.int .i64 2,.int .i64 t,.lst (ps.map Ah)]]),some (.row 1 (fi.map (V.int .i64))),some (.row 3 [.agg [.nils,.nils,.bool false]]),some (.row 3 [.agg [.sl 8 0 fi.length,.sl 11 0 la.length,.bool false]]),some (.row 1 (la.map (V.int .i64))),some (.row 3 [Ah y]),some (.row 3 [R8 ⟨qf,ql,false⟩])]) 11 (by decide) hlk hC FZ rfl hxl (FU rfl) rfl hx2 hlF trivial ?_ ?_;((conv=>whnf);simp only [AA _ (AJ _)];rfl))|refine ⟨CR _,?_⟩|(refine EN ⟨?_,?_⟩ ?_;(show (ql.map (V.int .i64)).length≤_;omega);(show (ql.map (V.int .i64)).length*_≤_;omega)))<;>conv=>whnf
   refine Z1 [0,3,4,6,48,49,50] ⟨140,[(0,.ptr 0 0 0),(3,.rp [.int .i64 2,.int .i64 t,.lst (ps.map Ah)]),(4,.ptr 9 0 0),(6,.ptr 10 0 0),(48,.lst (ps.map Ah)),(49,.int .i64 (ps.map Ah).length),(50,.int .i64 (j+1:Nat))],((Bt ⟨S2.T,Au la qf S2.F⟩).map some++[some (.hid vs [.ptr 0 0 0,.agg [.int .i64 2,.int .i64 t,.lst (ps.map Ah)]]),some (.row 1 ((fi).map (V.int .i64))),some (.row 3 [.agg [.nils,.nils,.bool false]]),some (.row 3 [.agg [.sl 8 0 (fi).length,.sl 14 0 ql.length,.bool false]]),some (.row 1 (la.map (V.int .i64))),some (.row 3 [Ah y]),some (.row 3 [R8 ⟨qf,ql,false⟩]),some (.row 1 (ql.map (V.int .i64)))])⟩ ?_ (SA 11 (A0 ((Bt ⟨S2.T,Au la qf S2.F⟩).map some++[some (.hid vs [.ptr 0 0 0,.agg [.int .i64 2,.int .i64 t,.lst (ps.map Ah)]]),some (.row 1 ((fi).map (V.int .i64))),some (.row 3 [.agg [.nils,.nils,.bool false]]),some (.row 3 [.agg [.sl 8 0 (fi).length,.sl 14 0 ql.length,.bool false]]),none,some (.row 3 [Ah y]),some (.row 3 [R8 ⟨qf,ql,false⟩]),some (.row 1 (ql.map (V.int .i64)))]) ?_ (SB 14 11 (by decide) rfl rfl (A0 ((Bt ⟨S2.T,Au la qf S2.F⟩).map some++[some (.hid vs [.ptr 0 0 0,.agg [.int .i64 2,.int .i64 t,.lst (ps.map Ah)]]),some (.row 1 ((fi).map (V.int .i64))),some (.row 3 [.agg [.nils,.nils,.bool false]]),some (.row 3 [.agg [.sl 8 0 (fi).length,.sl 11 0 ql.length,.bool false]]),some (.row 1 (ql.map (V.int .i64))),some (.row 3 [Ah y]),some (.row 3 [R8 ⟨qf,ql,false⟩]),none]) ?_ (AM [0,3,4,6,48,49,50] [12,13] (j+1,⟨fi,ql,false⟩,⟨S2.T,Au la qf S2.F⟩) ⟨hlt,hnx⟩ (by show ps.length - (j+1) < ps.length - j;omega) ?_)))))
   ·conv=>whnf
    simp only [AA _ (AJ _),BH,k8,k11,k12,k13,k14,tf,tl,tqf,tql,List.map_append,List.length_append,List.length_map]
    rfl
   ·conv=>whnf
    simp only [AA _ (AJ _),BH,k8,k11,k12,k13,k14,tf,tl,tqf,tql,List.map_append,List.length_append,List.length_map]
    rfl
   ·conv=>whnf
    simp only [FN _ _ (AJ _),mvk]
    rfl
   conv=>whnf
   simp only [AA _ (AJ _),BH,FN _ _ (AJ _),mvk,k8,k11,k12,k13,k14,tf,tl,tqf,tql,List.map_append,List.length_append,List.length_map]
   rfl
  ·conv=>whnf
   repeat' (first|refine A2 ?_|refine AO ?_|refine AV ?_|refine Ad ?_|(refine Hz ((Bt S2).map some++[some (.hid vs [.ptr 0 0 0,.agg [.int .i64 2,.int .i64 t,.lst (ps.map Ah)]]),some (.row 1 (fi.map (V.int .i64))),some (.row 3 [.agg [.nils,.nils,.bool false]]),some (.row 3 [.agg [.sl 8 0 fi.length,.sl 11 0 la.length,.bool false]]),some (.row 1 (la.map (V.int .i64))),some (.row 3 [Ah y])]) hc hC EH rfl hxs (FU rfl) hx0 hx2 ⟨trivial,trivial,trivial,trivial⟩ ?_ ?_;((conv=>whnf);simp only [AA _ (AJ _)];rfl))|(refine Gg (S1:=⟨S2.T,Au la qf S2.F⟩) ((Bt ⟨S2.T,Au la qf S2.F⟩).map some++[some (.hid vs [.ptr 0 0 0,.agg [.int .i64 2,.int .i64 t,.lst (ps.map Ah)]]),some (.row 1 (fi.map (V.int .i64))),some (.row 3 [.agg [.nils,.nils,.bool false]]),some (.row 3 [.agg [.sl 8 0 fi.length,.sl 11 0 la.length,.bool false]]),some (.row 1 (la.map (V.int .i64))),some (.row 3 [Ah y]),some (.row 3 [R8 ⟨qf,ql,true⟩])]) 11 (by decide) hlk hC FZ rfl hxl (FU rfl) rfl hx2 hlF trivial ?_ ?_;((conv=>whnf);simp only [AA _ (AJ _)];rfl))|refine ⟨CR _,?_⟩|(refine EN ⟨?_,?_,?_⟩ ?_;(simp [AQ]<;>omega);(show _+_≤_;simp [AQ]<;>omega);(show (_+_)*_≤_;simp [AQ]<;>omega)))<;>conv=>whnf
   refine AM [0,3,4,6,48,49,50] [12,13] (j+1,⟨fi,_,_⟩,⟨S2.T,Au la qf S2.F⟩) ⟨hlt,hnx⟩ (by show ps.length - (j+1) < ps.length - j;omega) ?_
   conv=>whnf
   simp only [AA _ (AJ _),BH,FN _ _ (AJ _),mvk,k8,k11,k12,k13,k14,tf,tl,tqf,tql,List.map_append,List.length_append,List.length_map]
   rfl
  ·conv=>whnf
   repeat' (first|refine A2 ?_|refine AO ?_|refine AV ?_|refine Ad ?_|(refine Hz ((Bt S2).map some++[some (.hid vs [.ptr 0 0 0,.agg [.int .i64 2,.int .i64 t,.lst (ps.map Ah)]]),some (.row 1 (fi.map (V.int .i64))),some (.row 3 [.agg [.nils,.nils,.bool false]]),some (.row 3 [.agg [.sl 8 0 fi.length,.sl 11 0 la.length,.bool true]]),some (.row 1 (la.map (V.int .i64))),some (.row 3 [Ah y])]) hc hC EH rfl hxs (FU rfl) hx0 hx2 ⟨trivial,trivial,trivial,trivial⟩ ?_ ?_;((conv=>whnf);simp only [AA _ (AJ _)];rfl))|(refine Gg (S1:=⟨S2.T,Au la qf S2.F⟩) ((Bt ⟨S2.T,Au la qf S2.F⟩).map some++[some (.hid vs [.ptr 0 0 0,.agg [.int .i64 2,.int .i64 t,.lst (ps.map Ah)]]),some (.row 1 (fi.map (V.int .i64))),some (.row 3 [.agg [.nils,.nils,.bool false]]),some (.row 3 [.agg [.sl 8 0 fi.length,.sl 11 0 la.length,.bool true]]),some (.row 1 (la.map (V.int .i64))),some (.row 3 [Ah y]),some (.row 3 [R8 ⟨qf,ql,false⟩])]) 11 (by decide) hlk hC FZ rfl hxl (FU rfl) rfl hx2 hlF trivial ?_ ?_;((conv=>whnf);simp only [AA _ (AJ _)];rfl))|refine ⟨CR _,?_⟩|(refine EN ⟨?_,?_⟩ ?_;(show (ql.map (V.int .i64)).length≤_;omega);(show (ql.map (V.int .i64)).length*_≤_;omega))|(refine EN ⟨?_,?_,?_⟩ ?_;(simp [AQ]<;>omega);(show _+_≤_;simp [AQ]<;>omega);(show (_+_)*_≤_;simp [AQ]<;>omega)))<;>conv=>whnf
   refine Z1 [0,3,4,6,48,49,50] ⟨140,[(0,.ptr 0 0 0),(3,.rp [.int .i64 2,.int .i64 t,.lst (ps.map Ah)]),(4,.ptr 9 0 0),(6,.ptr 10 0 0),(48,.lst (ps.map Ah)),(49,.int .i64 (ps.map Ah).length),(50,.int .i64 (j+1:Nat))],((Bt ⟨S2.T,Au la qf S2.F⟩).map some++[some (.hid vs [.ptr 0 0 0,.agg [.int .i64 2,.int .i64 t,.lst (ps.map Ah)]]),some (.row 1 ((fi++qf).map (V.int .i64))),some (.row 3 [.agg [.nils,.nils,.bool false]]),some (.row 3 [.agg [.sl 8 0 (fi++qf).length,.sl 14 0 ql.length,.bool false]]),some (.row 1 (la.map (V.int .i64))),some (.row 3 [Ah y]),some (.row 3 [R8 ⟨qf,ql,false⟩]),some (.row 1 (ql.map (V.int .i64)))])⟩ ?_ (SA 11 (A0 ((Bt ⟨S2.T,Au la qf S2.F⟩).map some++[some (.hid vs [.ptr 0 0 0,.agg [.int .i64 2,.int .i64 t,.lst (ps.map Ah)]]),some (.row 1 ((fi++qf).map (V.int .i64))),some (.row 3 [.agg [.nils,.nils,.bool false]]),some (.row 3 [.agg [.sl 8 0 (fi++qf).length,.sl 14 0 ql.length,.bool false]]),none,some (.row 3 [Ah y]),some (.row 3 [R8 ⟨qf,ql,false⟩]),some (.row 1 (ql.map (V.int .i64)))]) ?_ (SB 14 11 (by decide) rfl rfl (A0 ((Bt ⟨S2.T,Au la qf S2.F⟩).map some++[some (.hid vs [.ptr 0 0 0,.agg [.int .i64 2,.int .i64 t,.lst (ps.map Ah)]]),some (.row 1 ((fi++qf).map (V.int .i64))),some (.row 3 [.agg [.nils,.nils,.bool false]]),some (.row 3 [.agg [.sl 8 0 (fi++qf).length,.sl 11 0 ql.length,.bool false]]),some (.row 1 (ql.map (V.int .i64))),some (.row 3 [Ah y]),some (.row 3 [R8 ⟨qf,ql,false⟩]),none]) ?_ (AM [0,3,4,6,48,49,50] [12,13] (j+1,⟨fi++qf,ql,false⟩,⟨S2.T,Au la qf S2.F⟩) ⟨hlt,hnx⟩ (by show ps.length - (j+1) < ps.length - j;omega) ?_)))))
   ·conv=>whnf
    simp only [AA _ (AJ _),BH,k8,k11,k12,k13,k14,tf,tl,tqf,tql,List.map_append,List.length_append,List.length_map]
    rfl
   ·conv=>whnf
    simp only [AA _ (AJ _),BH,k8,k11,k12,k13,k14,tf,tl,tqf,tql,List.map_append,List.length_append,List.length_map]
    rfl
   ·conv=>whnf
    simp only [FN _ _ (AJ _),mvk]
    rfl
   conv=>whnf
   simp only [AA _ (AJ _),BH,FN _ _ (AJ _),mvk,k8,k11,k12,k13,k14,tf,tl,tqf,tql,List.map_append,List.length_append,List.length_map]
   rfl
  ·conv=>whnf
   repeat' (first|refine A2 ?_|refine AO ?_|refine AV ?_|refine Ad ?_|(refine Hz ((Bt S2).map some++[some (.hid vs [.ptr 0 0 0,.agg [.int .i64 2,.int .i64 t,.lst (ps.map Ah)]]),some (.row 1 (fi.map (V.int .i64))),some (.row 3 [.agg [.nils,.nils,.bool false]]),some (.row 3 [.agg [.sl 8 0 fi.length,.sl 11 0 la.length,.bool true]]),some (.row 1 (la.map (V.int .i64))),some (.row 3 [Ah y])]) hc hC EH rfl hxs (FU rfl) hx0 hx2 ⟨trivial,trivial,trivial,trivial⟩ ?_ ?_;((conv=>whnf);simp only [AA _ (AJ _)];rfl))|(refine Gg (S1:=⟨S2.T,Au la qf S2.F⟩) ((Bt ⟨S2.T,Au la qf S2.F⟩).map some++[some (.hid vs [.ptr 0 0 0,.agg [.int .i64 2,.int .i64 t,.lst (ps.map Ah)]]),some (.row 1 (fi.map (V.int .i64))),some (.row 3 [.agg [.nils,.nils,.bool false]]),some (.row 3 [.agg [.sl 8 0 fi.length,.sl 11 0 la.length,.bool true]]),some (.row 1 (la.map (V.int .i64))),some (.row 3 [Ah y]),some (.row 3 [R8 ⟨qf,ql,true⟩])]) 11 (by decide) hlk hC FZ rfl hxl (FU rfl) rfl hx2 hlF trivial ?_ ?_;((conv=>whnf);simp only [AA _ (AJ _)];rfl))|refine ⟨CR _,?_⟩|(refine EN ⟨?_,?_,?_⟩ ?_;(simp [AQ]<;>omega);(show _+_≤_;simp [AQ]<;>omega);(show (_+_)*_≤_;simp [AQ]<;>omega)))<;>conv=>whnf
   refine AM [0,3,4,6,48,49,50] [12,13] (j+1,⟨fi++qf,_,_⟩,⟨S2.T,Au la qf S2.F⟩) ⟨hlt,hnx⟩ (by show ps.length - (j+1) < ps.length - j;omega) ?_
   conv=>whnf
   simp only [AA _ (AJ _),BH,FN _ _ (AJ _),mvk,k8,k11,k12,k13,k14,tf,tl,tqf,tql,List.map_append,List.length_append,List.length_map]
   rfl
 ·obtain rfl:j=ps.length:=by omega
  rw [List.take_length] at hA
  rw [hA] at h4 ⊢
  have hx0:Sx.F.length≤4:=by omega
  unfold QT
  rw [if_neg (by decide)]
  all_goals cases no
  all_goals
   conv=>whnf
   repeat' refine A1 ?_<;>conv=>whnf
   refine Ap (Bm [4] (A0 ((Bt Sx).map some++[some (.hid vs [.ptr 0 0 0,.agg [.int .i64 _,.int .i64 t,.lst (ps.map Ah)]]),some (.row 1 (fi.map (V.int .i64))),some (.row 3 [.agg [.sl 8 0 fi.length,.sl 11 0 la.length,.bool _]]),some (.row 3 [.agg [.sl 8 0 fi.length,.sl 11 0 la.length,.bool _]]),some (.row 1 (la.map (V.int .i64)))]) ?_ (AH (LZ hE _ t (ps.map Ah) _ _ _ _ _ _ _ hx0 fi la _ rfl))))
   conv=>whnf
   simp only [AA _ (AJ _)]
   rfl
theorem dH:∀(N:Nat) (x:Ex) (S:Ps),El x≤N→OkS S→(BY x S).2.T.length≤4→QG x S:=by
 intro N
 induction N with
 | zero=>intro x S hx;have:=CZ x;omega
 | succ N ih=>
   rintro ⟨k,t,ps⟩ S hx hS h4
   rw [CQ] at hx
   have ihl:∀y∈ps,∀S,OkS S→(BY y S).2.T.length≤4→QG y S:=fun y hy S hS h=>ih y S (by have:=FM hy;omega) hS h
   unfold QG
   rw [DF]
   by_cases h1:k=1
   ·subst h1
    have e:BY (.mk 1 t ps) S=(⟨[(S.T.length:Int)],[(S.T.length:Int)],false⟩,⟨S.T++[t],S.F++[[]]⟩):=by rw [BY,if_pos rfl]
    rw [e] at h4 ⊢
    exact XB t ps S hS (by simpa using h4)
   ·by_cases h2:k=2
    ·subst h2
     refine XG t ps S hS ?_ ihl
     rw [BY,if_neg h1] at h4
     unfold QT at h4
     split at h4<;>exact h4
    ·refine XF k t ps S hS h1 h2 ?_ ihl
     rw [BY,if_neg h1,decide_eq_false h2] at h4
     unfold QT at h4
     split at h4<;>exact h4
theorem iX (x:Ex) (S:Ps) (hS:OkS S) (h4:(BY x S).2.T.length≤4):QG x S:=dH _ x S (Nat.le_refl _) hS h4
def XZ (F:List (List Int)) (m:Nat):List V:=(List.range F.length).map fun j=>if j < m then AL (AE F j) else .sl (3+j) 0 (AE F j).length
theorem ie (F:List (List Int)):XZ F 0=CU F:=by
 unfold XZ CU
 apply List.map_congr_left
 intro j _
 rw [if_neg (by omega)]
theorem Lg (F:List (List Int)) (m:Nat):Ai (3+m) ((AE F m).map (V.int .i64)) (XZ F m)=XZ F (m+1):=by
 rw [HP]
 unfold XZ
 rw [List.map_map]
 apply List.map_congr_left
 intro j _
 simp only [Function.comp]
 by_cases h1:j < m
 ·rw [if_pos h1,if_pos (by omega)]
  simp [AL,V.frz]
 ·rw [if_neg h1]
  by_cases h2:j=m
  ·subst h2
   rw [if_pos (by omega),B0 _ _ (by simp)]
   rfl
  ·rw [if_neg (by omega),FL _ (by omega)]
theorem ig (F:List (List Int)) (h4:F.length≤4):XZ F 4=F.map AL:=by
 apply List.ext_getElem?
 intro j
 unfold XZ
 rw [List.getElem?_map,List.getElem?_map]
 by_cases h:j < F.length
 ·rw [List.getElem?_range h,List.getElem?_eq_getElem h]
  simp only [Option.map_some]
  rw [if_pos (by omega)]
  unfold AE
  rw [List.getD_eq_getElem?_getD,List.getElem?_eq_getElem h]
  rfl
 ·rw [List.getElem?_eq_none (by simp;omega),List.getElem?_eq_none (by omega)]
  rfl
theorem NM (F:List (List Int)):BT (F.map AL):=by
 induction F with
 | nil=>trivial
 | cons r F ih=>exact ⟨trivial,ih⟩
def O6 (S:Ps):V:=.rp [.lst (S.T.map (V.int .i64)),.lst (S.F.map AL),.nils,.nils,.bool false]
set_option maxHeartbeats 4000000 in
theorem ii {C:Ctx} {K:ES→Prop} {S:Ps} (h4:S.F.length≤4) (hl:S.F.length=S.T.length) (s:Nat) (ks:List Nat) {n:Nat} {u:List (Nat×V)} {tail:List (Option Ob)} (hu:AU u s= .ptr 0 0 0)
 (hks:∀id els,id < 7→Fw id els (Az ks u)=Az ks u) (htl:∀id els,id < 7→CG id els tail=tail)
 (hk:UpE C K ⟨n,(s,O6 S)::Az ks u,none::none::none::none::none::none::none::tail⟩):UpE C K ⟨n,u,(Bt S).map some++tail⟩:=by
 have nI:∀l:List Int,BT (l.map (V.int .i64)):=AJ
 have fI:∀id els (l:List Int),Ai id els (l.map (V.int .i64))=l.map (V.int .i64):=fun id els l=>AX id els (nI l)
 refine Bm (s::ks) ?_
 show UpE C K ⟨n,(s,AU u s)::Az ks u,_⟩
 rw [hu]
 unfold Bt fo
 rw [←ie]
 have key:∀(m:Nat) (R0 R1 R2 R3:Option Ob) (id:Nat) (els:List V),id < 7→2 < id→(∀x∈[R0,R1,R2,R3],∀o,x=some o→o.frz id els=o)→
  CG id els (some (.row 5 [Sn S])::some (.row 1 (S.T.map (V.int .i64)))::some (.row 1 (XZ S.F m))::R0::R1::R2::R3::tail)=some (.row 5 [Sn S])::some (.row 1 (S.T.map (V.int .i64)))::some (.row 1 (Ai id els (XZ S.F m)))::R0::R1::R2::R3::tail:=by
  intro m R0 R1 R2 R3 id els h7 h2 hR
  have hr:∀x∈[R0,R1,R2,R3],∀l,CG id els (x::l)=x::CG id els l:=fun x hx l=>by
   cases x with
   | none=>rfl
   | some o=>show some (o.frz id els)::_=_;rw [hR _ hx o rfl]
  simp only [CG,Ob.frz,fI]
  rw [hr R0 (by simp),hr R1 (by simp),hr R2 (by simp),hr R3 (by simp),htl id els h7]
  congr 3
  simp only [Sn,Ai,V.frz]
  rw [if_neg (by omega),if_neg (by omega)]
 have kU:∀id els,id < 7→0 < id→Fw id els ((s,.ptr 0 0 0)::Az ks u)=(s,.ptr 0 0 0)::Az ks u:=fun id els h7 h0=>by
  show (s,V.frz id els (.ptr 0 0 0))::Fw id els (Az ks u)=_
  rw [hks id els h7]
  simp only [V.frz]
  rw [if_neg (by omega)]
 have fR:∀(l:List Int) id els o,some (Ob.row 1 (l.map (V.int .i64)))=some o→o.frz id els=o:=fun l id els o h=>by
  cases h
  simp only [Ob.frz,fI]
 have fN:∀(id:Nat) (els:List V) (o:Ob),(none:Option Ob)=some o→o.frz id els=o:=fun id els o h=>by cases h
 refine AK 3 (z:=1) (els:=(AE S.F 0).map (V.int .i64)) rfl (nI _) ?_
 rw [kU _ _ (by omega) (by omega)]
 show UpE C K ⟨n,_,(CG 3 _ (some (.row 5 [Sn S])::some (.row 1 (S.T.map (V.int .i64)))::some (.row 1 (XZ S.F 0))::some (.row 1 ((AE S.F 0).map (V.int .i64)))::some (.row 1 ((AE S.F 1).map (V.int .i64)))::some (.row 1 ((AE S.F 2).map (V.int .i64)))::some (.row 1 ((AE S.F 3).map (V.int .i64)))::tail)).set 3 none⟩
 rw [key 0 _ _ _ _ 3 _ (by omega) (by omega) (by simp;exact ⟨fR _ _ _ _ rfl,fR _ _ _ _ rfl,fR _ _ _ _ rfl,fR _ _ _ _ rfl⟩),show (3:Nat)=3+0 from rfl,Lg]
 refine AK 4 (z:=1) (els:=(AE S.F 1).map (V.int .i64)) rfl (nI _) ?_
 rw [kU _ _ (by omega) (by omega)]
 show UpE C K ⟨n,_,(CG 4 _ (some (.row 5 [Sn S])::some (.row 1 (S.T.map (V.int .i64)))::some (.row 1 (XZ S.F 1))::none::some (.row 1 ((AE S.F 1).map (V.int .i64)))::some (.row 1 ((AE S.F 2).map (V.int .i64)))::some (.row 1 ((AE S.F 3).map (V.int .i64)))::tail)).set 4 none⟩
 rw [key 1 _ _ _ _ 4 _ (by omega) (by omega) (by simp;exact ⟨fR _ _ _ _ rfl,fR _ _ _ _ rfl,fR _ _ _ _ rfl⟩),show (4:Nat)=3+1 from rfl,Lg]
 refine AK 5 (z:=1) (els:=(AE S.F 2).map (V.int .i64)) rfl (nI _) ?_
 rw [kU _ _ (by omega) (by omega)]
 show UpE C K ⟨n,_,(CG 5 _ (some (.row 5 [Sn S])::some (.row 1 (S.T.map (V.int .i64)))::some (.row 1 (XZ S.F 2))::none::none::some (.row 1 ((AE S.F 2).map (V.int .i64)))::some (.row 1 ((AE S.F 3).map (V.int .i64)))::tail)).set 5 none⟩
 rw [key 2 _ _ _ _ 5 _ (by omega) (by omega) (by simp;exact ⟨fR _ _ _ _ rfl,fR _ _ _ _ rfl⟩),show (5:Nat)=3+2 from rfl,Lg]
 refine AK 6 (z:=1) (els:=(AE S.F 3).map (V.int .i64)) rfl (nI _) ?_
 rw [kU _ _ (by omega) (by omega)]
 show UpE C K ⟨n,_,(CG 6 _ (some (.row 5 [Sn S])::some (.row 1 (S.T.map (V.int .i64)))::some (.row 1 (XZ S.F 3))::none::none::none::some (.row 1 ((AE S.F 3).map (V.int .i64)))::tail)).set 6 none⟩
 rw [key 3 _ _ _ _ 6 _ (by omega) (by omega) (by simp;exact fR _ _ _ _ rfl),show (6:Nat)=3+3 from rfl,Lg,ig _ h4]
 refine AK 1 (z:=1) (els:=S.T.map (V.int .i64)) rfl (nI _) ?_
 rw [kU _ _ (by omega) (by omega)]
 have e1:(CG 1 (S.T.map (V.int .i64)) (some (.row 5 [Sn S])::some (.row 1 (S.T.map (V.int .i64)))::some (.row 1 (S.F.map AL))::none::none::none::none::tail)).set 1 none=some (.row 5 [.agg [.lst (S.T.map (V.int .i64)),.sl 2 0 S.F.length,.nils,.nils,.bool false]])::none::some (.row 1 (S.F.map AL))::none::none::none::none::tail:=by
  simp only [CG,Ob.frz,fI,AX _ _ (NM S.F),htl 1 _ (by omega),Sn,Ai]
  simp only [V.frz,Ai]
  simp
  exact List.take_of_length_le (by simp)
 refine B5 ?_ (congrArg (fun h=>(⟨n,_,h⟩:ES)) e1)
 refine AK 2 (z:=1) (els:=S.F.map AL) rfl (NM _) ?_
 rw [kU _ _ (by omega) (by omega)]
 have e2:(CG 2 (S.F.map AL) (some (.row 5 [.agg [.lst (S.T.map (V.int .i64)),.sl 2 0 S.F.length,.nils,.nils,.bool false]])::none::some (.row 1 (S.F.map AL))::none::none::none::none::tail)).set 2 none=some (.row 5 [.agg [.lst (S.T.map (V.int .i64)),.lst (S.F.map AL),.nils,.nils,.bool false]])::none::none::none::none::none::none::tail:=by
  simp only [CG,Ob.frz,fI,AX _ _ (NM S.F),htl 2 _ (by omega),Ai]
  simp only [V.frz,Ai]
  simp
  exact List.take_of_length_le (by simp)
 refine B5 ?_ (congrArg (fun h=>(⟨n,_,h⟩:ES)) e2)
 refine AK 0 (z:=5) (els:=[.agg [.lst (S.T.map (V.int .i64)),.lst (S.F.map AL),.nils,.nils,.bool false]]) rfl ⟨⟨trivial,trivial,trivial,trivial,trivial,trivial⟩,trivial⟩ ?_
 refine B5 hk ?_
 have e3:Fw 0 [.agg [.lst (S.T.map (V.int .i64)),.lst (S.F.map AL),.nils,.nils,.bool false]] ((s,.ptr 0 0 0)::Az ks u)=(s,O6 S)::Az ks u:=by
  show (s,V.frz 0 _ (.ptr 0 0 0))::Fw 0 _ (Az ks u)=_
  rw [hks 0 _ (by omega)]
  rfl
 rw [e3]
 show (⟨n,_,(CG 0 _ (some _::none::none::none::none::none::none::tail)).set 0 none⟩:ES)=_
 simp only [CG,htl 0 _ (by omega),List.set_cons_zero]
end
section
def Em (T:List (List Int)) (i c:Nat):Nat:=(((T[i]?.getD [])[c]?).getD 0).toNat
def Dv (F:List Bool) (i:Nat):Bool:=(F[i]?).getD false
theorem W7 (r:List Bool) (k:Nat) (h:r[k]?=some false):((r.set k true).countP fun b=>!b)+1=r.countP fun b=>!b:=by
 induction r generalizing k with
 | nil=>simp at h
 | cons a r ih=>
   cases k with
   | zero=>simp at h;subst h;simp
   | succ k=>simp at h;have:=ih k h;simp [List.countP_cons];omega
section
variable {T:List (List Int)} {F:List Bool} {n:Nat} {D0 D:List (List Bool)} {more:Bool} {i k c:Nat}
end
abbrev Md:=List Nat→Bool
def bI (L:Md) (c:Nat):Md:=fun w=>L (c::w)
def JS (L:Md):Prop:=∀w,L w=false
def CY (T:List (List Int)) (F:List Bool) (x:Nat):Md:=fun w=>w.all (fun c=>decide (c < 8))&&Dv F (w.foldl (Em T) x)
theorem HX {T:List (List Int)} {F:List Bool} {x c:Nat} (hc:c < 8):CY T F (Em T x c)=bI (CY T F x) c:=by
 funext w
 simp [CY,bI,hc]
theorem LV {T:List (List Int)} {F:List Bool} {x:Nat}:CY T F x []=Dv F x:=by simp [CY]
theorem VR {T T':List (List Int)} {F F':List Bool} {x y:Nat} (h:∀w,Eq w→Dv F (w.foldl (Em T) x)=Dv F' (w.foldl (Em T') y)):CY T F x=CY T' F' y:=by
 funext w
 unfold CY
 by_cases hw:Eq w
 ·rw [h w hw]
 ·have:w.all (fun c=>decide (c < 8))=false:=by
   rw [Bool.eq_false_iff]
   intro e
   exact hw fun c hc=>of_decide_eq_true (List.all_eq_true.1 e c hc)
  rw [this,Bool.false_and,Bool.false_and]
structure BInv (L0:Md) (ls:List Md) (W:List Int):Prop where
 first:ls[0]?=some L0
 live:∀L∈ls,¬JS L
 nodup:∀(i j:Nat) (L:Md),ls[i]?=some L→ls[j]?=some L→i=j
 bound:W.length≤8*ls.length
 step:∀(p:Nat) (v:Int),W[p]?=some v→∃L,ls[p / 8]?=some L∧((v= -1∧JS (bI L (p % 8)))∨∃j:Nat,v=j∧ls[j]?=some (bI L (p % 8)))
 order:∀j:Nat,1≤j→j < ls.length→∃p:Nat,p / 8 < j∧W[p]?=some (j:Int)∧∀q,q < p→∀v,W[q]?=some v→v < j
theorem BInv.start {L0:Md} (h:¬JS L0):BInv L0 [L0] [] where
 first:=rfl
 live:=fun L hL=>by simp at hL;subst hL;exact h
 nodup:=fun i j L hi hj=>by
  have h1:=(List.getElem?_eq_some_iff.1 hi).1
  have h2:=(List.getElem?_eq_some_iff.1 hj).1
  simp at h1 h2
  omega
 bound:=by simp
 step:=fun p v h=>by simp at h
 order:=fun j h1 h2=>by simp at h2;omega
section
variable {L0:Md} {ls:List Md} {W:List Int}
theorem DN {α:Type} {l:List α} {x y:α} {p:Nat} (h:(l++[x])[p]?=some y):l[p]?=some y∨(p=l.length∧y=x):=by
 rw [List.getElem?_append] at h
 split at h
 ·exact .inl h
 ·match hk:p - l.length with
  | 0=>rw [hk] at h;cases h;exact .inr ⟨by omega,rfl⟩
  | k+1=>rw [hk] at h;simp at h
theorem Fl {α:Type} {l m:List α} {y:α} {p:Nat} (h:l[p]?=some y):(l++m)[p]?=some y:=by
 rw [List.getElem?_append_left (List.getElem?_eq_some_iff.1 h).1]
 exact h
theorem BInv.vals (h:BInv L0 ls W) {p:Nat} {v:Int} (hv:W[p]?=some v):v < ls.length:=by
 obtain ⟨L,h1,h2|⟨j,rfl,h2⟩⟩:=h.step p v hv
 ·have:=(List.getElem?_eq_some_iff.1 h1).1
  omega
 ·have:=(List.getElem?_eq_some_iff.1 h2).1
  omega
theorem BInv.put (h:BInv L0 ls W) {L:Md} (hL:ls[W.length / 8]?=some L) {v:Int} (hv:(v= -1∧JS (bI L (W.length % 8)))∨∃j:Nat,v=j∧ls[j]?=some (bI L (W.length % 8))):BInv L0 ls (W++[v]) where
 first:=h.first
 live:=h.live
 nodup:=h.nodup
 bound:=by
  have:=(List.getElem?_eq_some_iff.1 hL).1
  simp
  omega
 step:=fun p u hu=>by
  rcases DN hu with hu|⟨rfl,rfl⟩
  ·exact h.step p u hu
  ·exact ⟨L,hL,hv⟩
 order:=fun j h1 h2=>by
  obtain ⟨p,a,b,c⟩:=h.order j h1 h2
  refine ⟨p,a,Fl b,fun q hq u hu=>?_⟩
  rcases DN hu with hu|⟨rfl,rfl⟩
  ·exact c q hq u hu
  ·have:=(List.getElem?_eq_some_iff.1 b).1
   omega
theorem BInv.grow (h:BInv L0 ls W) {L:Md} (hL:ls[W.length / 8]?=some L) (hn:bI L (W.length % 8)∉ls) (hd:¬JS (bI L (W.length % 8))):BInv L0 (ls++[bI L (W.length % 8)]) (W++[(ls.length:Int)]) where
 first:=Fl h.first
 live:=fun M hM=>by
  rcases List.mem_append.1 hM with hM|hM
  ·exact h.live M hM
  ·simp at hM;subst hM;exact hd
 nodup:=fun i j M hi hj=>by
  rcases DN hi with hi|⟨rfl,rfl⟩
  ·rcases DN hj with hj|⟨rfl,rfl⟩
   ·exact h.nodup i j M hi hj
   ·exact absurd (List.mem_of_getElem? hi) hn
  ·rcases DN hj with hj|⟨rfl,_⟩
   ·exact absurd (List.mem_of_getElem? hj) hn
   ·rfl
 bound:=by
  have:=(List.getElem?_eq_some_iff.1 hL).1
  simp
  omega
 step:=fun p u hu=>by
  rcases DN hu with hu|⟨rfl,rfl⟩
  ·obtain ⟨M,a,b⟩:=h.step p u hu
   exact ⟨M,Fl a,b.imp id fun ⟨j,c,d⟩=>⟨j,c,Fl d⟩⟩
  ·exact ⟨L,Fl hL,.inr ⟨ls.length,rfl,by simp⟩⟩
 order:=fun j h1 h2=>by
  by_cases hj:j < ls.length
  ·obtain ⟨p,a,b,c⟩:=h.order j h1 hj
   refine ⟨p,a,Fl b,fun q hq u hu=>?_⟩
   rcases DN hu with hu|⟨rfl,rfl⟩
   ·exact c q hq u hu
   ·have:=(List.getElem?_eq_some_iff.1 b).1
    omega
  ·have hj':j=ls.length:=by simp at h2;omega
   subst hj'
   refine ⟨W.length,(List.getElem?_eq_some_iff.1 hL).1,by simp,fun q hq u hu=>?_⟩
   rcases DN hu with hu|⟨rfl,rfl⟩
   ·exact h.vals hu
   ·omega
structure Canon (L0:Md) (ls:List Md) (W:List Int):Prop where
 inv:BInv L0 ls W
 full:W.length=8*ls.length
theorem Canon.at (h:Canon L0 ls W) {p:Nat} (hp:p / 8 < ls.length):∃v,W[p]?=some v:=⟨_,List.getElem?_eq_getElem (by rw [h.full];omega)⟩
theorem Ie {ls':List Md} {W':List Int} (h:Canon L0 ls W) (h':Canon L0 ls' W') {j:Nat} (ih:∀i,i < j→∀L L',ls[i]?=some L→ls'[i]?=some L'→L=L') (h1:1≤j) (hj:j < ls.length) (hj':j≤ls'.length):
 ∃(p k:Nat) (L:Md),ls[j]?=some L∧(∀q,q < p→∀v,W[q]?=some v→v < j)∧W[p]?=some (j:Int)∧W'[p]?=some (k:Int)∧ls'[k]?=some L∧j≤k:=by
 obtain ⟨p,a,b,c⟩:=h.inv.order j h1 hj
 obtain ⟨M,hM,hs⟩:=h.inv.step p j b
 have hs2:ls[j]?=some (bI M (p % 8)):=by
  rcases hs with ⟨e,_⟩|⟨i,e,hs⟩
  ·omega
  ·obtain rfl:j=i:=by omega
   exact hs
 have hlive:=h.inv.live _ (List.mem_of_getElem? hs2)
 obtain ⟨M',hM'⟩:∃M',ls'[p / 8]?=some M':=⟨_,List.getElem?_eq_getElem (by omega)⟩
 obtain rfl:=ih _ a M M' hM hM'
 obtain ⟨v,hv⟩:=h'.at (p:=p) (by omega)
 obtain ⟨M2,hM2,hs'⟩:=h'.inv.step p v hv
 rw [hM'] at hM2
 cases hM2
 rcases hs' with ⟨_,hd⟩|⟨k,rfl,hk⟩
 ·exact absurd hd hlive
 ·refine ⟨p,k,_,hs2,c,b,hv,hk,Decidable.byContradiction fun hlt=>?_⟩
  obtain ⟨K,hK⟩:∃K,ls[k]?=some K:=⟨_,List.getElem?_eq_getElem (by omega)⟩
  have:=ih k (by omega) K _ hK hk
  subst this
  have:=h.inv.nodup k j _ hK hs2
  omega
theorem Me {ls':List Md} {W':List Int} (h:Canon L0 ls W) (h':Canon L0 ls' W'):∀(j:Nat) (L L':Md),ls[j]?=some L→ls'[j]?=some L'→L=L':=by
 intro j
 induction j using Nat.strongRecOn with
 | _ j ih=>
   intro L L' hL hL'
   by_cases h0:j=0
   ·subst h0
    rw [h.inv.first] at hL
    rw [h'.inv.first] at hL'
    cases hL;cases hL';rfl
   ·have l1:=(List.getElem?_eq_some_iff.1 hL).1
    have l2:=(List.getElem?_eq_some_iff.1 hL').1
    obtain ⟨p,k,K,a1,a2,a3,a4,a5,a6⟩:=Ie h h' ih (by omega) l1 (by omega)
    obtain ⟨q,m,M,b1,b2,b3,b4,b5,b6⟩:=Ie h' h (fun i hi X Y hX hY=>(ih i hi Y X hY hX).symm) (by omega) l2 (by omega)
    rw [hL] at a1
    cases a1
    rw [hL'] at b1
    cases b1
    rcases Nat.lt_trichotomy p q with hpq|rfl|hpq
    ·have:=b2 p hpq _ a4
     omega
    ·rw [a4] at b3
     simp only [Option.some.injEq,Int.natCast_inj] at b3
     subst b3
     rw [hL'] at a5
     cases a5
     rfl
    ·have:=a2 q hpq _ b4
     omega
theorem Oj {ls':List Md} {W':List Int} (h:Canon L0 ls W) (h':Canon L0 ls' W'):ls.length≤ls'.length:=by
 refine Decidable.byContradiction fun hn=>?_
 have h0:=(List.getElem?_eq_some_iff.1 h'.inv.first).1
 obtain ⟨p,k,K,a1,a2,a3,a4,a5,a6⟩:=Ie h h' (j:=ls'.length) (fun i _=>Me h h' i) (by omega) (by omega) (Nat.le_refl _)
 have:=(List.getElem?_eq_some_iff.1 a5).1
 omega
theorem ZD {ls':List Md} {W':List Int} (h:Canon L0 ls W) (h':Canon L0 ls' W'):ls=ls'∧W=W':=by
 have hl:ls.length=ls'.length:=Nat.le_antisymm (Oj h h') (Oj h' h)
 have e:ls=ls':=by
  apply List.ext_getElem?
  intro i
  by_cases hi:i < ls.length
  ·rw [List.getElem?_eq_getElem hi,List.getElem?_eq_getElem (by omega)]
   exact congrArg some (Me h h' i _ _ (List.getElem?_eq_getElem hi) (List.getElem?_eq_getElem (by omega)))
  ·rw [List.getElem?_eq_none (by omega),List.getElem?_eq_none (by omega)]
 subst e
 refine ⟨rfl,?_⟩
 have hw:W.length=W'.length:=by rw [h.full,h'.full]
 apply List.ext_getElem?
 intro p
 by_cases hp:p < W.length
 ·obtain ⟨v,hv⟩:∃v,W[p]?=some v:=⟨_,List.getElem?_eq_getElem hp⟩
  obtain ⟨v',hv'⟩:∃v,W'[p]?=some v:=⟨_,List.getElem?_eq_getElem (by omega)⟩
  rw [hv,hv']
  obtain ⟨L,a,b⟩:=h.inv.step p v hv
  obtain ⟨L',a',b'⟩:=h'.inv.step p v' hv'
  rw [a] at a'
  cases a'
  rcases b with ⟨rfl,b⟩|⟨j,rfl,b⟩<;>rcases b' with ⟨rfl,b'⟩|⟨j',rfl,b'⟩
  ·rfl
  ·exact absurd b (h.inv.live _ (List.mem_of_getElem? b'))
  ·exact absurd b' (h.inv.live _ (List.mem_of_getElem? b))
  ·rw [h.inv.nodup j j' _ b b']
 ·rw [List.getElem?_eq_none (by omega),List.getElem?_eq_none (by omega)]
structure CanonM (L0:Md) (R:List (List Int)) (G:List Bool):Prop where
 ex:∃ls,Canon L0 ls R.flatten∧G=ls.map fun L=>L []
 row:∀r∈R,r.length=8
theorem cU {R R':List (List Int)} (h:∀r∈R,r.length=8) (h':∀r∈R',r.length=8) (e:R.flatten=R'.flatten):R=R':=by
 induction R generalizing R' with
 | nil=>
   cases R' with
   | nil=>rfl
   | cons r' R'=>
     have h8:=h' r' (by simp)
     rw [List.flatten_cons,List.flatten_nil] at e
     have:=congrArg List.length e
     rw [List.length_append,h8,List.length_nil] at this
     omega
 | cons r R ih=>
   cases R' with
   | nil=>
     have h8:=h r (by simp)
     rw [List.flatten_cons,List.flatten_nil] at e
     have:=congrArg List.length e
     rw [List.length_append,h8,List.length_nil] at this
     omega
   | cons r' R'=>
     rw [List.flatten_cons,List.flatten_cons] at e
     obtain ⟨e1,e2⟩:=List.append_inj e (by rw [h r (by simp),h' r' (by simp)])
     rw [e1,ih (fun q hq=>h q (by simp [hq])) (fun q hq=>h' q (by simp [hq])) e2]
theorem Wl {R R':List (List Int)} {G G':List Bool} (h:CanonM L0 R G) (h':CanonM L0 R' G'):R=R'∧G=G':=by
 obtain ⟨ls,h1,h2⟩:=h.ex
 obtain ⟨ls',h1',h2'⟩:=h'.ex
 obtain ⟨e1,e2⟩:=ZD h1 h1'
 exact ⟨cU h.row h'.row e2,by rw [h2,h2',e1]⟩
end
end
end Go.Proofs.YtkaiffheakalmaaGreatDoor
