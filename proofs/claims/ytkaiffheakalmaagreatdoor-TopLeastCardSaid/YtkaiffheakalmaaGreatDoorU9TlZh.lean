/- Copied, stripped. No conditions. -/
import Derived.Test.YtkaiffheakalmaaGreatDoorU9TlZg
set_option linter.unusedSimpArgs false
set_option linter.unusedVariables false
set_option maxRecDepth 100000
namespace Go.Proofs.YtkaiffheakalmaaGreatDoor
open Go.RowKit
theorem dk {F:List (List Int)} {a b:Nat} (h:F.length+3≤a):Hn a b (CC F)=CC F:=by
  unfold CC
  have:∀l:List Nat,(∀j∈l,j < F.length)→Hn a b (l.map fun j=>V.sl (3+j) 0 (AF F j).length)=l.map fun j=>V.sl (3+j) 0 (AF F j).length:=by
    intro l
    induction l with
    | nil=>intro _;rfl
    | cons j l ih=>
      intro hj
      have h1:=hj j (by simp)
      simp only [List.map_cons,Hn,V.mv]
      rw [ih fun k hk=>hj k (by simp [hk])]
      unfold Rb
      rw [if_neg (by omega)]
  exact this _ fun j hj=>List.mem_range.1 hj
def Oh (M:List Nat):List (Nat×V)→List (Nat×V)
  | []=>[]
  | (d,x)::u=>(d,NR M x)::Oh M u
theorem Nm (M:List Nat):∀u,Oh M u=Cq M u
  | []=>rfl
  | (d,x)::u=>by
    have:=Nm M u
    unfold Cq at this ⊢
    simp only [Oh,List.map_cons,this]
def Zp (a b:Nat):List (Nat×V)→List (Nat×V)
  | []=>[]
  | (d,x)::u=>(d,x.mv a b)::Zp a b u
theorem Tr (a b:Nat):∀u,Zp a b u=dR a b u
  | []=>rfl
  | (d,x)::u=>by
    have:=Tr a b u
    unfold dR at this ⊢
    simp only [Zp,List.map_cons,this]
def f8 (M:List Nat):List (Nat×V)→(List (Nat×V)→Prop)→Prop
  | [],K=>K []
  | (d,x)::u,K=>f5 (NR M x) fun x=>f8 M u fun u=>K ((d,x)::u)
theorem Oi (M:List Nat):∀(u:List (Nat×V)) (K:List (Nat×V)→Prop),f8 M u K=K (Cq M u)
  | [],K=>rfl
  | (d,x)::u,K=>by
    unfold f8
    rw [OB,Oi M u]
    rfl
theorem XX {C:Ctx} {K:ES→Prop} (ks:List Nat) (σ':ES) {n:Nat} {u:List (Nat×V)} {h:List (Option Ob)} (e:(⟨n,A1 ks u,h⟩:ES)=σ') (hk:UpE C K σ'):UpE C K ⟨n,u,h⟩:=B8 ks (e▸hk)
theorem QM {C:Ctx} {K:ES→Prop} (id:Nat) {n:Nat} {u:List (Nat×V)} {h:List (Option Ob)} (hk:UpE C K ⟨n,Oh [id] u,(Ba id h).set id none⟩):UpE C K ⟨n,u,h⟩:=by
  refine Bc id ?_
  rw [Nm] at hk
  exact hk
theorem QN {C:Ctx} {K:ES→Prop} (a b:Nat) {n:Nat} {o:Ob} {u:List (Nat×V)} {h:List (Option Ob)} (hab:a≠b) (ha:h[a]?=some (some o)) (hn:h[b]?=some none) (hk:UpE C K ⟨n,Zp a b u,Dd a b h⟩):UpE C K ⟨n,u,h⟩:=by
  refine EO a b hab ha hn ?_
  rw [Tr] at hk
  exact hk
theorem HD {C:Ctx} {P:Program} {f:FuncId} {xs:List V} {S0 S1:Ps} {R0:V} {fop:Operand} {args:List Operand} {K:V→ES→Prop} {σ:ES} (h':List (Option Ob)) (h:HFn P f xs (Bj S0) [0] (fun r o=>r=R0∧o=Bj S1)) (hC:C.P=P) (hb:AD P f=true)
    (he:B3 σ fop args=some (f,xs)) (hxs:FC 7 (fun j=>j) xs xs) (hobj:∀(j:Nat) (o:Ob),(Bj S0)[j]?=some o→σ.heap[j]?=some (some o)) (h0:S0.F.length≤4) (h1:S1.F.length≤4) (hR:R0.nr)
    (e:fH (BG (fun j=>j) (Bj S1) 0 (BA [1,2,3,4,5,6] σ.heap)) fun h=>h=h') (hK:f8 [1,2,3,4,5,6] σ.u fun u=>K R0 ⟨σ.n,u,h'⟩):CallN C fop args f xs K σ:=by
  refine Lx h hC hb he hxs hobj h0 h1 hR ?_
  rw [Oi] at hK
  rw [BB] at e ⊢
  rw [e];exact hK
theorem F2 {C:Ctx} {P:Program} {f:FuncId} {xs0 xs:List V} {S0 S1:Ps} {R0:V} {l:List Int} {fop:Operand} {args:List Operand} {K:V→ES→Prop} {σ:ES} (h':List (Option Ob)) (a:Nat) (ha:7≤a)
    (h:HFn P f xs0 (Bj S0++[.row 1 (l.map (V.int .i64))]) [7,0] (fun r o=>∃o0,(r=R0∧o0=Bj S1)∧o=o0++[.row 1 (l.map (V.int .i64))])) (hC:C.P=P) (hb:AD P f=true)
    (he:B3 σ fop args=some (f,xs)) (hxs:FC 8 (QL a) xs0 xs) (hobj:∀(j:Nat) (o:Ob),(Bj S0)[j]?=some o→σ.heap[j]?=some (some o)) (hrow:σ.heap[a]?=some (some (.row 1 (l.map (V.int .i64))))) (h0:S0.F.length≤4) (h1:S1.F.length≤4) (hR:R0.nr)
    (e:fH (BG (QL a) (Bj S1++[.row 1 (l.map (V.int .i64))]) 0 (BA [1,2,3,4,5,6] σ.heap)) fun h=>h=h') (hK:f8 [1,2,3,4,5,6] σ.u fun u=>K R0 ⟨σ.n,u,h'⟩):CallN C fop args f xs K σ:=by
  refine U1 a ha h hC hb he hxs hobj hrow h0 h1 hR ?_
  rw [Oi] at hK
  rw [BB] at e ⊢
  rw [e];exact hK
set_option maxHeartbeats 16000000 in
theorem U4 (t:Int) (ps:List Ex) (S:Ps) (hS:OkS S) (h4:(Cn 2 ps ⟨[],[],true⟩ S).2.T.length≤4) (ih:∀y∈ps,∀S,OkS S→(BO y S).2.T.length≤4→Og y S):
    HFn Tryz.prog 52 [.ptr 0 0 0,.agg [.int .i64 2,.int .i64 t,.lst (ps.map Ai)]] (Bj S) [0] (fun r o=>r=QJ (BO (.mk 2 t ps) S).1∧o=Bj (BO (.mk 2 t ps) S).2):=by
  have hpm:(ps.map Ai).length=ps.length:=by simp
  have hl:=hS.len
  have e0:BO (.mk 2 t ps) S=OS 2 (Cn 2 ps ⟨[],[],true⟩ S):=by rw [BO,if_neg (by decide)];rfl
  rw [e0]
  clear e0
  have h40:S.T.length≤4:=Nat.le_trans ((Rr _).2 2 ps S _ (Nat.le_refl _)) h4
  refine HO (T:=Tryz.tt) Tryz.func52 rfl AR AB ?_ ?_ fun C vs hC hE=>?_
  . kernel_rfl
  . exact Nat.le_of_ble_eq_true (by kernel_rfl)
  conv=>whnf
  repeat' (first|(refine AN (by first|assumption|omega) ?_;conv=>whnf)|(refine AM (by first|assumption|omega) ?_;conv=>whnf)|(intro hlen;conv=>whnf))
  refine Ae (fun ((j,out,Sx):Nat×Pt×Ps)=>⟨140,[(0,.ptr 0 0 0),(3,.rp [.int .i64 2,.int .i64 t,.lst (ps.map Ai)]),(4,.ptr 9 0 0),(6,.ptr 10 0 0),(48,.lst (ps.map Ai)),(49,.int .i64 (ps.map Ai).length),(50,.int .i64 j)],(Bj Sx).map some++[some (.hid vs [.ptr 0 0 0,.agg [.int .i64 2,.int .i64 t,.lst (ps.map Ai)]]),some (.row 1 (out.first.map (V.int .i64))),some (.row 3 [.agg [.nils,.nils,.bool false]]),some (.row 3 [.agg [.sl 8 0 out.first.length,.sl 11 0 out.last.length,.bool out.none]]),some (.row 1 (out.last.map (V.int .i64)))]⟩)
    (fun (j,out,Sx)=>j≤ps.length∧Cn 2 (ps.take j) ⟨[],[],true⟩ S=(out,Sx)) (fun (j,_,_)=>ps.length - j) (0,⟨[],[],true⟩,S) hE ?_ ?_ ⟨Nat.zero_le _,rfl⟩ ?_
  . kernel_rfl
  . refine AO 8 (z:=3) (els:=[.agg [.int .i64 2,.int .i64 t,.lst (ps.map Ai)]]) rfl ⟨⟨trivial,trivial,trivial,trivial⟩,trivial⟩ (CY 10 0 1 rfl rfl (CY 10 1 1 rfl rfl (AU [0,3,4,6,48,49,50] ?_)))
    conv=>whnf
    simp only [Ik (F:=S.F) (by omega) (Nat.le_refl 8),AZ _ _ (AE _)]
    rfl
  rintro ⟨j,⟨fi,la,no⟩,Sx⟩ ⟨hj,hA⟩
  have h00:OkP S ⟨[],[],true⟩ S:=⟨hS,Nat.le_refl _,fun x hx=>(List.not_mem_nil hx).elim,fun x hx=>(List.not_mem_nil hx).elim,(by simp),(by simp)⟩
  have hP:=Tm 2 (ps.take j) h00
  have hP4:=HC 2 ps S ⟨[],[],true⟩ j
  rw [hA] at hP hP4
  have hPl:Sx.F.length=Sx.T.length:=hP.ok.len
  have hP4':Sx.T.length≤4:=Nat.le_trans hP4 h4
  have hfl:fi.length≤4:=by have:=hP.fl;simp only at this hP4;omega
  have hll:la.length≤4:=by have:=hP.ll;simp only at this hP4;omega
  have hfm:(fi.map (V.int .i64)).length=fi.length:=by simp
  have hlm:(la.map (V.int .i64)).length=la.length:=by simp
  by_cases hlt:j < ps.length
  . obtain ⟨y,hy⟩:∃y,ps[j]?=some y:=⟨_,List.getElem?_eq_getElem hlt⟩
    have gy:(ps.map Ai)[j]?=some (Ai y):=by rw [List.getElem?_map,hy];rfl
    have hnx:=JQ (k:=2) (ps:=ps) (j:=j) (y:=y) ⟨[],[],true⟩ S hy
    rw [hA] at hnx
    have hQ4:(BO y Sx).2.T.length≤4:=by
      have:=HC 2 ps S ⟨[],[],true⟩ (j+1)
      rw [hnx,Rq] at this
      exact Nat.le_trans this h4
    have hc:=ih y (List.mem_of_getElem? hy) Sx hP.ok hQ4
    have hQ:=XP y hP.ok
    unfold Og at hc
    generalize BO y Sx=q at hnx hQ4 hc hQ
    obtain ⟨⟨qf,ql,qn⟩,S2⟩:=q
    have hQl:S2.F.length=S2.T.length:=hQ.ok.len
    have hQ4':S2.T.length≤4:=hQ4
    have hqf:qf.length≤4:=by have:=hQ.fl;simp only at this hQ4;omega
    have hql:ql.length≤4:=by have:=hQ.ll;simp only at this hQ4;omega
    have hqfm:(qf.map (V.int .i64)).length=qf.length:=by simp
    have hqlm:(ql.map (V.int .i64)).length=ql.length:=by simp
    have hxs:FC 7 (fun j=>j) [V.ptr 0 0 0,Ai y] [V.ptr 0 0 0,Ai y]:=⟨_,_,rfl,⟨by decide,rfl⟩,_,_,rfl,En _ (Fx [y]).1,rfl⟩
    have hx0:Sx.F.length≤4:=by omega
    have hx2:S2.F.length≤4:=by omega
    unfold GJ at hnx
    rw [if_neg (by decide)] at hnx
    simp only at hnx
    have hB:=hQ.ok.bd
    have hqfi:∀x∈qf,0≤x∧x < (S2.F.length:Int):=hQ.fi
    have hla:∀x∈la,0≤x∧x < (S2.F.length:Int):=fun x hx=>by
      have h1:=hP.la x hx
      have h2:Sx.T.length≤S2.T.length:=hQ.le
      simp only at h1
      omega
    have hlk:=Lz S2 la qf hx2 hla hqfi hB
    have hlF:(Au la qf S2.F).length≤4:=by rw [CA];exact hx2
    have hxl:FC 8 (QL 11) [V.ptr 0 0 0,.sl 7 0 la.length,.lst (qf.map (V.int .i64))] [V.ptr 0 0 0,.sl 11 0 la.length,.lst (qf.map (V.int .i64))]:=⟨_,_,rfl,⟨by decide,rfl⟩,_,_,rfl,⟨by decide,rfl⟩,_,_,rfl,rfl,rfl⟩
    have hk6:∀l:List Int,AK 6 (AK 5 (AK 4 (AK 3 (AK 2 (AK 1 (l.map (V.int .i64)))))))=l.map (V.int .i64):=fun l=>by simp only [AA _ (AE _)]
    have k8:=CN (F:=Au la qf S2.F) (n:=8) (by omega)
    have k11:=CN (F:=Au la qf S2.F) (n:=11) (by omega)
    have k12:=CN (F:=Au la qf S2.F) (n:=12) (by omega)
    have k13:=CN (F:=Au la qf S2.F) (n:=13) (by omega)
    have k14:=CN (F:=Au la qf S2.F) (n:=14) (by omega)
    have mvk:=dk (F:=Au la qf S2.F) (a:=14) (b:=11) (by omega)
    have tf:List.take fi.length (List.drop 0 (fi.map (V.int .i64)))=fi.map (V.int .i64):=by rw [List.drop_zero,List.take_of_length_le (by simp)]
    have tl:List.take la.length (List.drop 0 (la.map (V.int .i64)))=la.map (V.int .i64):=by rw [List.drop_zero,List.take_of_length_le (by simp)]
    have tqf:List.take qf.length (List.drop 0 (qf.map (V.int .i64)))=qf.map (V.int .i64):=by rw [List.drop_zero,List.take_of_length_le (by simp)]
    have tql:List.take ql.length (List.drop 0 (ql.map (V.int .i64)))=ql.map (V.int .i64):=by rw [List.drop_zero,List.take_of_length_le (by simp)]
    cases no
    all_goals cases qn
    . conv=>whnf
      repeat' (first|(refine AN (by first|assumption|omega) ?_;conv=>whnf)|(refine Af (by first|assumption|omega) ?_;conv=>whnf)|(refine AS (by omega) ?_;conv=>whnf)|(refine AQ (by assumption) ?_;conv=>whnf)|(refine HD ((Bj S2).map some++[some (.hid vs [.ptr 0 0 0,.agg [.int .i64 2,.int .i64 t,.lst (ps.map Ai)]]),some (.row 1 (fi.map (V.int .i64))),some (.row 3 [.agg [.nils,.nils,.bool false]]),some (.row 3 [.agg [.sl 8 0 fi.length,.sl 11 0 la.length,.bool false]]),some (.row 1 (la.map (V.int .i64))),some (.row 3 [Ai y])]) hc hC Dn rfl hxs (Ey rfl) hx0 hx2 ⟨trivial,trivial,trivial,trivial⟩ ?_ ?_;((conv=>whnf);simp only [AA _ (AE _)];rfl);conv=>whnf)|(refine F2 (S1:=⟨S2.T,Au la qf S2.F⟩) ((Bj ⟨S2.T,Au la qf S2.F⟩).map some++[some (.hid vs [.ptr 0 0 0,.agg [.int .i64 2,.int .i64 t,.lst (ps.map Ai)]]),some (.row 1 (fi.map (V.int .i64))),some (.row 3 [.agg [.nils,.nils,.bool false]]),some (.row 3 [.agg [.sl 8 0 fi.length,.sl 11 0 la.length,.bool false]]),some (.row 1 (la.map (V.int .i64))),some (.row 3 [Ai y]),some (.row 3 [QJ ⟨qf,ql,false⟩])]) 11 (by decide) hlk hC E4 rfl hxl (Ey rfl) rfl hx2 hlF trivial ?_ ?_;((conv=>whnf);simp only [AA _ (AE _)];rfl);conv=>whnf)|(refine ⟨Cm _,?_⟩;conv=>whnf)|(refine Af ⟨?_,?_⟩ ?_;(show (ql.map (V.int .i64)).length≤_;omega);(show (ql.map (V.int .i64)).length*_≤_;omega);conv=>whnf))
      refine XX [0,3,4,6,48,49,50] ⟨140,[(0,.ptr 0 0 0),(3,.rp [.int .i64 2,.int .i64 t,.lst (ps.map Ai)]),(4,.ptr 9 0 0),(6,.ptr 10 0 0),(48,.lst (ps.map Ai)),(49,.int .i64 (ps.map Ai).length),(50,.int .i64 (j+1:Nat))],((Bj ⟨S2.T,Au la qf S2.F⟩).map some++[some (.hid vs [.ptr 0 0 0,.agg [.int .i64 2,.int .i64 t,.lst (ps.map Ai)]]),some (.row 1 ((fi).map (V.int .i64))),some (.row 3 [.agg [.nils,.nils,.bool false]]),some (.row 3 [.agg [.sl 8 0 (fi).length,.sl 14 0 ql.length,.bool false]]),some (.row 1 (la.map (V.int .i64))),some (.row 3 [Ai y]),some (.row 3 [QJ ⟨qf,ql,false⟩]),some (.row 1 (ql.map (V.int .i64)))])⟩ ?_ (QM 11 (Ax ((Bj ⟨S2.T,Au la qf S2.F⟩).map some++[some (.hid vs [.ptr 0 0 0,.agg [.int .i64 2,.int .i64 t,.lst (ps.map Ai)]]),some (.row 1 ((fi).map (V.int .i64))),some (.row 3 [.agg [.nils,.nils,.bool false]]),some (.row 3 [.agg [.sl 8 0 (fi).length,.sl 14 0 ql.length,.bool false]]),none,some (.row 3 [Ai y]),some (.row 3 [QJ ⟨qf,ql,false⟩]),some (.row 1 (ql.map (V.int .i64)))]) ?_ (QN 14 11 (by decide) rfl rfl (Ax ((Bj ⟨S2.T,Au la qf S2.F⟩).map some++[some (.hid vs [.ptr 0 0 0,.agg [.int .i64 2,.int .i64 t,.lst (ps.map Ai)]]),some (.row 1 ((fi).map (V.int .i64))),some (.row 3 [.agg [.nils,.nils,.bool false]]),some (.row 3 [.agg [.sl 8 0 (fi).length,.sl 11 0 ql.length,.bool false]]),some (.row 1 (ql.map (V.int .i64))),some (.row 3 [Ai y]),some (.row 3 [QJ ⟨qf,ql,false⟩]),none]) ?_ (AL [0,3,4,6,48,49,50] [12,13] (j+1,⟨fi,ql,false⟩,⟨S2.T,Au la qf S2.F⟩) ⟨hlt,hnx⟩ (by show ps.length - (j+1) < ps.length - j;omega) ?_)))))
      . conv=>whnf
        simp only [AA _ (AE _),BD,k8,k11,k12,k13,k14,tf,tl,tqf,tql,List.map_append,List.length_append,List.length_map]
        rfl
      . conv=>whnf
        simp only [AA _ (AE _),BD,k8,k11,k12,k13,k14,tf,tl,tqf,tql,List.map_append,List.length_append,List.length_map]
        rfl
      . conv=>whnf
        simp only [EB _ _ (AE _),mvk]
        rfl
      conv=>whnf
      simp only [AA _ (AE _),BD,EB _ _ (AE _),mvk,k8,k11,k12,k13,k14,tf,tl,tqf,tql,List.map_append,List.length_append,List.length_map]
      rfl
    . conv=>whnf
      repeat' (first|(refine AN (by first|assumption|omega) ?_;conv=>whnf)|(refine Af (by first|assumption|omega) ?_;conv=>whnf)|(refine AS (by omega) ?_;conv=>whnf)|(refine AQ (by assumption) ?_;conv=>whnf)|(refine HD ((Bj S2).map some++[some (.hid vs [.ptr 0 0 0,.agg [.int .i64 2,.int .i64 t,.lst (ps.map Ai)]]),some (.row 1 (fi.map (V.int .i64))),some (.row 3 [.agg [.nils,.nils,.bool false]]),some (.row 3 [.agg [.sl 8 0 fi.length,.sl 11 0 la.length,.bool false]]),some (.row 1 (la.map (V.int .i64))),some (.row 3 [Ai y])]) hc hC Dn rfl hxs (Ey rfl) hx0 hx2 ⟨trivial,trivial,trivial,trivial⟩ ?_ ?_;((conv=>whnf);simp only [AA _ (AE _)];rfl);conv=>whnf)|(refine F2 (S1:=⟨S2.T,Au la qf S2.F⟩) ((Bj ⟨S2.T,Au la qf S2.F⟩).map some++[some (.hid vs [.ptr 0 0 0,.agg [.int .i64 2,.int .i64 t,.lst (ps.map Ai)]]),some (.row 1 (fi.map (V.int .i64))),some (.row 3 [.agg [.nils,.nils,.bool false]]),some (.row 3 [.agg [.sl 8 0 fi.length,.sl 11 0 la.length,.bool false]]),some (.row 1 (la.map (V.int .i64))),some (.row 3 [Ai y]),some (.row 3 [QJ ⟨qf,ql,true⟩])]) 11 (by decide) hlk hC E4 rfl hxl (Ey rfl) rfl hx2 hlF trivial ?_ ?_;((conv=>whnf);simp only [AA _ (AE _)];rfl);conv=>whnf)|(refine ⟨Cm _,?_⟩;conv=>whnf)|(refine Af ⟨?_,?_,?_⟩ ?_;(simp [AT]<;>omega);(show _+_≤_;simp [AT]<;>omega);(show (_+_)*_≤_;simp [AT]<;>omega);conv=>whnf))
      refine AL [0,3,4,6,48,49,50] [12,13] (j+1,⟨fi,_,_⟩,⟨S2.T,Au la qf S2.F⟩) ⟨hlt,hnx⟩ (by show ps.length - (j+1) < ps.length - j;omega) ?_
      conv=>whnf
      simp only [AA _ (AE _),BD,EB _ _ (AE _),mvk,k8,k11,k12,k13,k14,tf,tl,tqf,tql,List.map_append,List.length_append,List.length_map]
      rfl
    . conv=>whnf
      repeat' (first|(refine AN (by first|assumption|omega) ?_;conv=>whnf)|(refine Af (by first|assumption|omega) ?_;conv=>whnf)|(refine AS (by omega) ?_;conv=>whnf)|(refine AQ (by assumption) ?_;conv=>whnf)|(refine HD ((Bj S2).map some++[some (.hid vs [.ptr 0 0 0,.agg [.int .i64 2,.int .i64 t,.lst (ps.map Ai)]]),some (.row 1 (fi.map (V.int .i64))),some (.row 3 [.agg [.nils,.nils,.bool false]]),some (.row 3 [.agg [.sl 8 0 fi.length,.sl 11 0 la.length,.bool true]]),some (.row 1 (la.map (V.int .i64))),some (.row 3 [Ai y])]) hc hC Dn rfl hxs (Ey rfl) hx0 hx2 ⟨trivial,trivial,trivial,trivial⟩ ?_ ?_;((conv=>whnf);simp only [AA _ (AE _)];rfl);conv=>whnf)|(refine F2 (S1:=⟨S2.T,Au la qf S2.F⟩) ((Bj ⟨S2.T,Au la qf S2.F⟩).map some++[some (.hid vs [.ptr 0 0 0,.agg [.int .i64 2,.int .i64 t,.lst (ps.map Ai)]]),some (.row 1 (fi.map (V.int .i64))),some (.row 3 [.agg [.nils,.nils,.bool false]]),some (.row 3 [.agg [.sl 8 0 fi.length,.sl 11 0 la.length,.bool true]]),some (.row 1 (la.map (V.int .i64))),some (.row 3 [Ai y]),some (.row 3 [QJ ⟨qf,ql,false⟩])]) 11 (by decide) hlk hC E4 rfl hxl (Ey rfl) rfl hx2 hlF trivial ?_ ?_;((conv=>whnf);simp only [AA _ (AE _)];rfl);conv=>whnf)|(refine ⟨Cm _,?_⟩;conv=>whnf)|(refine Af ⟨?_,?_⟩ ?_;(show (ql.map (V.int .i64)).length≤_;omega);(show (ql.map (V.int .i64)).length*_≤_;omega);conv=>whnf)|(refine Af ⟨?_,?_,?_⟩ ?_;(simp [AT]<;>omega);(show _+_≤_;simp [AT]<;>omega);(show (_+_)*_≤_;simp [AT]<;>omega);conv=>whnf))
      refine XX [0,3,4,6,48,49,50] ⟨140,[(0,.ptr 0 0 0),(3,.rp [.int .i64 2,.int .i64 t,.lst (ps.map Ai)]),(4,.ptr 9 0 0),(6,.ptr 10 0 0),(48,.lst (ps.map Ai)),(49,.int .i64 (ps.map Ai).length),(50,.int .i64 (j+1:Nat))],((Bj ⟨S2.T,Au la qf S2.F⟩).map some++[some (.hid vs [.ptr 0 0 0,.agg [.int .i64 2,.int .i64 t,.lst (ps.map Ai)]]),some (.row 1 ((fi++qf).map (V.int .i64))),some (.row 3 [.agg [.nils,.nils,.bool false]]),some (.row 3 [.agg [.sl 8 0 (fi++qf).length,.sl 14 0 ql.length,.bool false]]),some (.row 1 (la.map (V.int .i64))),some (.row 3 [Ai y]),some (.row 3 [QJ ⟨qf,ql,false⟩]),some (.row 1 (ql.map (V.int .i64)))])⟩ ?_ (QM 11 (Ax ((Bj ⟨S2.T,Au la qf S2.F⟩).map some++[some (.hid vs [.ptr 0 0 0,.agg [.int .i64 2,.int .i64 t,.lst (ps.map Ai)]]),some (.row 1 ((fi++qf).map (V.int .i64))),some (.row 3 [.agg [.nils,.nils,.bool false]]),some (.row 3 [.agg [.sl 8 0 (fi++qf).length,.sl 14 0 ql.length,.bool false]]),none,some (.row 3 [Ai y]),some (.row 3 [QJ ⟨qf,ql,false⟩]),some (.row 1 (ql.map (V.int .i64)))]) ?_ (QN 14 11 (by decide) rfl rfl (Ax ((Bj ⟨S2.T,Au la qf S2.F⟩).map some++[some (.hid vs [.ptr 0 0 0,.agg [.int .i64 2,.int .i64 t,.lst (ps.map Ai)]]),some (.row 1 ((fi++qf).map (V.int .i64))),some (.row 3 [.agg [.nils,.nils,.bool false]]),some (.row 3 [.agg [.sl 8 0 (fi++qf).length,.sl 11 0 ql.length,.bool false]]),some (.row 1 (ql.map (V.int .i64))),some (.row 3 [Ai y]),some (.row 3 [QJ ⟨qf,ql,false⟩]),none]) ?_ (AL [0,3,4,6,48,49,50] [12,13] (j+1,⟨fi++qf,ql,false⟩,⟨S2.T,Au la qf S2.F⟩) ⟨hlt,hnx⟩ (by show ps.length - (j+1) < ps.length - j;omega) ?_)))))
      . conv=>whnf
        simp only [AA _ (AE _),BD,k8,k11,k12,k13,k14,tf,tl,tqf,tql,List.map_append,List.length_append,List.length_map]
        rfl
      . conv=>whnf
        simp only [AA _ (AE _),BD,k8,k11,k12,k13,k14,tf,tl,tqf,tql,List.map_append,List.length_append,List.length_map]
        rfl
      . conv=>whnf
        simp only [EB _ _ (AE _),mvk]
        rfl
      conv=>whnf
      simp only [AA _ (AE _),BD,EB _ _ (AE _),mvk,k8,k11,k12,k13,k14,tf,tl,tqf,tql,List.map_append,List.length_append,List.length_map]
      rfl
    . conv=>whnf
      repeat' (first|(refine AN (by first|assumption|omega) ?_;conv=>whnf)|(refine Af (by first|assumption|omega) ?_;conv=>whnf)|(refine AS (by omega) ?_;conv=>whnf)|(refine AQ (by assumption) ?_;conv=>whnf)|(refine HD ((Bj S2).map some++[some (.hid vs [.ptr 0 0 0,.agg [.int .i64 2,.int .i64 t,.lst (ps.map Ai)]]),some (.row 1 (fi.map (V.int .i64))),some (.row 3 [.agg [.nils,.nils,.bool false]]),some (.row 3 [.agg [.sl 8 0 fi.length,.sl 11 0 la.length,.bool true]]),some (.row 1 (la.map (V.int .i64))),some (.row 3 [Ai y])]) hc hC Dn rfl hxs (Ey rfl) hx0 hx2 ⟨trivial,trivial,trivial,trivial⟩ ?_ ?_;((conv=>whnf);simp only [AA _ (AE _)];rfl);conv=>whnf)|(refine F2 (S1:=⟨S2.T,Au la qf S2.F⟩) ((Bj ⟨S2.T,Au la qf S2.F⟩).map some++[some (.hid vs [.ptr 0 0 0,.agg [.int .i64 2,.int .i64 t,.lst (ps.map Ai)]]),some (.row 1 (fi.map (V.int .i64))),some (.row 3 [.agg [.nils,.nils,.bool false]]),some (.row 3 [.agg [.sl 8 0 fi.length,.sl 11 0 la.length,.bool true]]),some (.row 1 (la.map (V.int .i64))),some (.row 3 [Ai y]),some (.row 3 [QJ ⟨qf,ql,true⟩])]) 11 (by decide) hlk hC E4 rfl hxl (Ey rfl) rfl hx2 hlF trivial ?_ ?_;((conv=>whnf);simp only [AA _ (AE _)];rfl);conv=>whnf)|(refine ⟨Cm _,?_⟩;conv=>whnf)|(refine Af ⟨?_,?_,?_⟩ ?_;(simp [AT]<;>omega);(show _+_≤_;simp [AT]<;>omega);(show (_+_)*_≤_;simp [AT]<;>omega);conv=>whnf))
      refine AL [0,3,4,6,48,49,50] [12,13] (j+1,⟨fi++qf,_,_⟩,⟨S2.T,Au la qf S2.F⟩) ⟨hlt,hnx⟩ (by show ps.length - (j+1) < ps.length - j;omega) ?_
      conv=>whnf
      simp only [AA _ (AE _),BD,EB _ _ (AE _),mvk,k8,k11,k12,k13,k14,tf,tl,tqf,tql,List.map_append,List.length_append,List.length_map]
      rfl
  . obtain rfl:j=ps.length:=by omega
    rw [List.take_length] at hA
    rw [hA] at h4 ⊢
    have hx0:Sx.F.length≤4:=by omega
    unfold OS
    rw [if_neg (by decide)]
    all_goals cases no
    all_goals
      conv=>whnf
      repeat' (refine AM (by first|assumption|omega) ?_;conv=>whnf)
      refine Aq (B8 [4] (Ax ((Bj Sx).map some++[some (.hid vs [.ptr 0 0 0,.agg [.int .i64 _,.int .i64 t,.lst (ps.map Ai)]]),some (.row 1 (fi.map (V.int .i64))),some (.row 3 [.agg [.sl 8 0 fi.length,.sl 11 0 la.length,.bool _]]),some (.row 3 [.agg [.sl 8 0 fi.length,.sl 11 0 la.length,.bool _]]),some (.row 1 (la.map (V.int .i64)))]) ?_ (AP (KQ hE _ t (ps.map Ai) _ _ _ _ _ _ _ hx0 fi la _ rfl))))
      conv=>whnf
      simp only [AA _ (AE _)]
      rfl
end Go.Proofs.YtkaiffheakalmaaGreatDoor
namespace Go.Proofs.YtkaiffheakalmaaGreatDoor
open Go.RowKit
theorem Zq:∀(N:Nat) (x:Ex) (S:Ps),EY x≤N→OkS S→(BO x S).2.T.length≤4→Og x S:=by
  intro N
  induction N with
  | zero=>intro x S hx;have:=Ia x;omega
  | succ N ih=>
    rintro ⟨k,t,ps⟩ S hx hS h4
    rw [CV] at hx
    have ihl:∀y∈ps,∀S,OkS S→(BO y S).2.T.length≤4→Og y S:=fun y hy S hS h=>ih y S (by have:=Eo hy;omega) hS h
    unfold Og
    rw [Cs]
    by_cases h1:k=1
    . subst h1
      have e:BO (.mk 1 t ps) S=(⟨[(S.T.length:Int)],[(S.T.length:Int)],false⟩,⟨S.T++[t],S.F++[[]]⟩):=by rw [BO,if_pos rfl]
      rw [e] at h4 ⊢
      exact Uz t ps S hS (by simpa using h4)
    . by_cases h2:k=2
      . subst h2
        refine U4 t ps S hS ?_ ihl
        rw [BO,if_neg h1] at h4
        unfold OS at h4
        split at h4<;>exact h4
      . refine U3 k t ps S hS h1 h2 ?_ ihl
        rw [BO,if_neg h1,decide_eq_false h2] at h4
        unfold OS at h4
        split at h4<;>exact h4
theorem gf (x:Ex) (S:Ps) (hS:OkS S) (h4:(BO x S).2.T.length≤4):Og x S:=Zq _ x S (Nat.le_refl _) hS h4
end Go.Proofs.YtkaiffheakalmaaGreatDoor
namespace Go.Proofs.YtkaiffheakalmaaGreatDoor
open Go.RowKit
def U5 (F:List (List Int)) (m:Nat):List V:=(List.range F.length).map fun j=>if j < m then AY (AF F j) else .sl (3+j) 0 (AF F j).length
theorem gg (F:List (List Int)):U5 F 0=CC F:=by
  unfold U5 CC
  apply List.map_congr_left
  intro j _
  rw [if_neg (by omega)]
theorem KR (F:List (List Int)) (m:Nat):An (3+m) ((AF F m).map (V.int .i64)) (U5 F m)=U5 F (m+1):=by
  rw [Gi]
  unfold U5
  rw [List.map_map]
  apply List.map_congr_left
  intro j _
  simp only [Function.comp]
  by_cases h1:j < m
  . rw [if_pos h1,if_pos (by omega)]
    simp [AY,V.frz]
  . rw [if_neg h1]
    by_cases h2:j=m
    . subst h2
      rw [if_pos (by omega),BY _ _ (by simp)]
      rfl
    . rw [if_neg (by omega),Er _ (by omega)]
theorem gh (F:List (List Int)) (h4:F.length≤4):U5 F 4=F.map AY:=by
  apply List.ext_getElem?
  intro j
  unfold U5
  rw [List.getElem?_map,List.getElem?_map]
  by_cases h:j < F.length
  . rw [List.getElem?_range h,List.getElem?_eq_getElem h]
    simp only [Option.map_some]
    rw [if_pos (by omega)]
    unfold AF
    rw [List.getD_eq_getElem?_getD,List.getElem?_eq_getElem h]
    rfl
  . rw [List.getElem?_eq_none (by simp;omega),List.getElem?_eq_none (by omega)]
    rfl
theorem L1 (F:List (List Int)):BN (F.map AY):=by
  induction F with
  | nil=>trivial
  | cons r F ih=>exact ⟨trivial,ih⟩
def Nn (S:Ps):V:=.rp [.lst (S.T.map (V.int .i64)),.lst (S.F.map AY),.nils,.nils,.bool false]
set_option maxHeartbeats 4000000 in
theorem gj {C:Ctx} {K:ES→Prop} {S:Ps} (h4:S.F.length≤4) (hl:S.F.length=S.T.length) (s:Nat) (ks:List Nat) {n:Nat} {u:List (Nat×V)} {tail:List (Option Ob)} (hu:Al u s= .ptr 0 0 0)
    (hks:∀id els,id < 7→FQ id els (A1 ks u)=A1 ks u) (htl:∀id els,id < 7→B1 id els tail=tail)
    (hk:UpE C K ⟨n,(s,Nn S)::A1 ks u,none::none::none::none::none::none::none::tail⟩):UpE C K ⟨n,u,(Bj S).map some++tail⟩:=by
  have nI:∀l:List Int,BN (l.map (V.int .i64)):=AE
  have fI:∀id els (l:List Int),An id els (l.map (V.int .i64))=l.map (V.int .i64):=fun id els l=>AZ id els (nI l)
  refine B8 (s::ks) ?_
  show UpE C K ⟨n,(s,Al u s)::A1 ks u,_⟩
  rw [hu]
  unfold Bj fo
  rw [←gg]
  have key:∀(m:Nat) (R0 R1 R2 R3:Option Ob) (id:Nat) (els:List V),id < 7→2 < id→(∀x∈[R0,R1,R2,R3],∀o,x=some o→o.frz id els=o)→
      B1 id els (some (.row 5 [Qw S])::some (.row 1 (S.T.map (V.int .i64)))::some (.row 1 (U5 S.F m))::R0::R1::R2::R3::tail)=some (.row 5 [Qw S])::some (.row 1 (S.T.map (V.int .i64)))::some (.row 1 (An id els (U5 S.F m)))::R0::R1::R2::R3::tail:=by
    intro m R0 R1 R2 R3 id els h7 h2 hR
    have hr:∀x∈[R0,R1,R2,R3],∀l,B1 id els (x::l)=x::B1 id els l:=fun x hx l=>by
      cases x with
      | none=>rfl
      | some o=>show some (o.frz id els)::_=_;rw [hR _ hx o rfl]
    simp only [B1,Ob.frz,fI]
    rw [hr R0 (by simp),hr R1 (by simp),hr R2 (by simp),hr R3 (by simp),htl id els h7]
    congr 3
    simp only [Qw,An,V.frz]
    rw [if_neg (by omega),if_neg (by omega)]
  have kU:∀id els,id < 7→0 < id→FQ id els ((s,.ptr 0 0 0)::A1 ks u)=(s,.ptr 0 0 0)::A1 ks u:=fun id els h7 h0=>by
    show (s,V.frz id els (.ptr 0 0 0))::FQ id els (A1 ks u)=_
    rw [hks id els h7]
    simp only [V.frz]
    rw [if_neg (by omega)]
  have fR:∀(l:List Int) id els o,some (Ob.row 1 (l.map (V.int .i64)))=some o→o.frz id els=o:=fun l id els o h=>by
    cases h
    simp only [Ob.frz,fI]
  have fN:∀(id:Nat) (els:List V) (o:Ob),(none:Option Ob)=some o→o.frz id els=o:=fun id els o h=>by cases h
  refine AO 3 (z:=1) (els:=(AF S.F 0).map (V.int .i64)) rfl (nI _) ?_
  rw [kU _ _ (by omega) (by omega)]
  show UpE C K ⟨n,_,(B1 3 _ (some (.row 5 [Qw S])::some (.row 1 (S.T.map (V.int .i64)))::some (.row 1 (U5 S.F 0))::some (.row 1 ((AF S.F 0).map (V.int .i64)))::some (.row 1 ((AF S.F 1).map (V.int .i64)))::some (.row 1 ((AF S.F 2).map (V.int .i64)))::some (.row 1 ((AF S.F 3).map (V.int .i64)))::tail)).set 3 none⟩
  rw [key 0 _ _ _ _ 3 _ (by omega) (by omega) (by simp;exact ⟨fR _ _ _ _ rfl,fR _ _ _ _ rfl,fR _ _ _ _ rfl,fR _ _ _ _ rfl⟩),show (3:Nat)=3+0 from rfl,KR]
  refine AO 4 (z:=1) (els:=(AF S.F 1).map (V.int .i64)) rfl (nI _) ?_
  rw [kU _ _ (by omega) (by omega)]
  show UpE C K ⟨n,_,(B1 4 _ (some (.row 5 [Qw S])::some (.row 1 (S.T.map (V.int .i64)))::some (.row 1 (U5 S.F 1))::none::some (.row 1 ((AF S.F 1).map (V.int .i64)))::some (.row 1 ((AF S.F 2).map (V.int .i64)))::some (.row 1 ((AF S.F 3).map (V.int .i64)))::tail)).set 4 none⟩
  rw [key 1 _ _ _ _ 4 _ (by omega) (by omega) (by simp;exact ⟨fR _ _ _ _ rfl,fR _ _ _ _ rfl,fR _ _ _ _ rfl⟩),show (4:Nat)=3+1 from rfl,KR]
  refine AO 5 (z:=1) (els:=(AF S.F 2).map (V.int .i64)) rfl (nI _) ?_
  rw [kU _ _ (by omega) (by omega)]
  show UpE C K ⟨n,_,(B1 5 _ (some (.row 5 [Qw S])::some (.row 1 (S.T.map (V.int .i64)))::some (.row 1 (U5 S.F 2))::none::none::some (.row 1 ((AF S.F 2).map (V.int .i64)))::some (.row 1 ((AF S.F 3).map (V.int .i64)))::tail)).set 5 none⟩
  rw [key 2 _ _ _ _ 5 _ (by omega) (by omega) (by simp;exact ⟨fR _ _ _ _ rfl,fR _ _ _ _ rfl⟩),show (5:Nat)=3+2 from rfl,KR]
  refine AO 6 (z:=1) (els:=(AF S.F 3).map (V.int .i64)) rfl (nI _) ?_
  rw [kU _ _ (by omega) (by omega)]
  show UpE C K ⟨n,_,(B1 6 _ (some (.row 5 [Qw S])::some (.row 1 (S.T.map (V.int .i64)))::some (.row 1 (U5 S.F 3))::none::none::none::some (.row 1 ((AF S.F 3).map (V.int .i64)))::tail)).set 6 none⟩
  rw [key 3 _ _ _ _ 6 _ (by omega) (by omega) (by simp;exact fR _ _ _ _ rfl),show (6:Nat)=3+3 from rfl,KR,gh _ h4]
  refine AO 1 (z:=1) (els:=S.T.map (V.int .i64)) rfl (nI _) ?_
  rw [kU _ _ (by omega) (by omega)]
  have e1:(B1 1 (S.T.map (V.int .i64)) (some (.row 5 [Qw S])::some (.row 1 (S.T.map (V.int .i64)))::some (.row 1 (S.F.map AY))::none::none::none::none::tail)).set 1 none=some (.row 5 [.agg [.lst (S.T.map (V.int .i64)),.sl 2 0 S.F.length,.nils,.nils,.bool false]])::none::some (.row 1 (S.F.map AY))::none::none::none::none::tail:=by
    simp only [B1,Ob.frz,fI,AZ _ _ (L1 S.F),htl 1 _ (by omega),Qw,An]
    simp only [V.frz,An]
    simp
    exact List.take_of_length_le (by simp)
  refine CL ?_ (congrArg (fun h=>(⟨n,_,h⟩:ES)) e1)
  refine AO 2 (z:=1) (els:=S.F.map AY) rfl (L1 _) ?_
  rw [kU _ _ (by omega) (by omega)]
  have e2:(B1 2 (S.F.map AY) (some (.row 5 [.agg [.lst (S.T.map (V.int .i64)),.sl 2 0 S.F.length,.nils,.nils,.bool false]])::none::some (.row 1 (S.F.map AY))::none::none::none::none::tail)).set 2 none=some (.row 5 [.agg [.lst (S.T.map (V.int .i64)),.lst (S.F.map AY),.nils,.nils,.bool false]])::none::none::none::none::none::none::tail:=by
    simp only [B1,Ob.frz,fI,AZ _ _ (L1 S.F),htl 2 _ (by omega),An]
    simp only [V.frz,An]
    simp
    exact List.take_of_length_le (by simp)
  refine CL ?_ (congrArg (fun h=>(⟨n,_,h⟩:ES)) e2)
  refine AO 0 (z:=5) (els:=[.agg [.lst (S.T.map (V.int .i64)),.lst (S.F.map AY),.nils,.nils,.bool false]]) rfl ⟨⟨trivial,trivial,trivial,trivial,trivial,trivial⟩,trivial⟩ ?_
  refine CL hk ?_
  have e3:FQ 0 [.agg [.lst (S.T.map (V.int .i64)),.lst (S.F.map AY),.nils,.nils,.bool false]] ((s,.ptr 0 0 0)::A1 ks u)=(s,Nn S)::A1 ks u:=by
    show (s,V.frz 0 _ (.ptr 0 0 0))::FQ 0 _ (A1 ks u)=_
    rw [hks 0 _ (by omega)]
    rfl
  rw [e3]
  show (⟨n,_,(B1 0 _ (some _::none::none::none::none::none::none::tail)).set 0 none⟩:ES)=_
  simp only [B1,htl 0 _ (by omega),List.set_cons_zero]
end Go.Proofs.YtkaiffheakalmaaGreatDoor
