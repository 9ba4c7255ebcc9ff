/- Joined. No conditions. -/
import Derived.Test.YtkaiffheakalmaaGreatDoorJ9bs
set_option linter.unusedSimpArgs false
set_option linter.unusedVariables false
set_option maxRecDepth 100000
namespace Go.Proofs.YtkaiffheakalmaaGreatDoor
open Go.RowKit
def jT (ty au:List V) (Z:List Int) (m:Mc) (w:List Int):V:=.agg [.rp [.lst ty,.lst au,AL Z],.lst (m.N.map AL),.lst (m.F.map V.bool),AL w,.nils]
def ED (n:Nat):List Ce:=List.replicate n .non
theorem di {C:Ctx} {K:ES→Prop} {n:Nat} {u:List (Nat×V)} {h:List (Option Ob)} (hk:UpE C K ⟨n,u,h⟩):UpE C K ⟨n,u,h++[none]⟩:=⟨bQ hk.out⟩
theorem gP (n:Nat):List.replicate n (V.agg [.int .i64 0,.int .i64 0,.bool false])=(ED n).map G0:=by simp [ED,G0,Ce.non]
theorem Xv {C:Ctx} {ty:List V} {ms:List Mc} {Z:List Int} {m:Mc} {w:List Int} {n:Nat} {v7:List Value} (i:Nat) (hlt:i < w.length+1) {u:List (Nat×V)} {h:List (Option Ob)} (h2:AU u 2= .lst (w.map (V.int .i64))) (h7:AU u 7= .ptr 0 0 0) (h28:AU u 28= .int .i64 ((w.length:Int)+1)) (h29:AU u 29= .int .i64 ((i:Int)+1))
 (hh:(BC (9+i) h).set (9+i) none=FB (C3 ty (ms.map BB) Z m w (i+1)) n (i+1) none v7 (List.replicate (i+1) (ED n))++[none]):
 UpE C (Wf (fun i:Nat=>(⟨154,[(2,.lst (w.map (V.int .i64))),(7,.ptr 0 0 0),(28,.int .i64 ((w.length:Int)+1)),(29,.int .i64 i)],FB (C3 ty (ms.map BB) Z m w i) n i none v7 (List.replicate i (ED n))⟩:ES)) (fun i=>i≤w.length+1) (fun i=>w.length+1 - i) i) ⟨154,u,h⟩:=by
 refine Bm [2,7,28,29] (BN (9+i) (B5 (σ':=⟨154,[(2,.lst (w.map (V.int .i64))),(7,.ptr 0 0 0),(28,.int .i64 ((w.length:Int)+1)),(29,.int .i64 ((i:Int)+1))],FB (C3 ty (ms.map BB) Z m w (i+1)) n (i+1) none v7 (List.replicate (i+1) (ED n))++[none]⟩) (di (AD [2,7,28,29] (i+1) (by omega) (by omega) ?_)) ?_))
 ·show fH _ _
  refine B3 ?_
  rfl
 ·rw [hh]
  simp [Az,h2,h7,h28,h29,V.kill]
  omega
def kR (T:V) (n L:Nat) (G:List (List Ce)):List (Option Ob):=some (.row 5 [T])::some (.row 1 (Dq 8 n L))::none::none::none::none::none::none::G.map CJ
def Ql (m:Mc) (w:List Int) (n j:Nat) (R:List Ce):Prop:=RwI n ((w.length - j:Nat):Int) (84000*((w.length - j+1:Nat):Int)) (fun i=>Hj m.N m.F i (w.drop j)=true) (fun _=>True) R
theorem dj (N:List (List Int)) (F:List Bool) (i:Nat):Hj N F i []=F.getD i false:=by
 unfold Hj
 show (decide (0≤(i:Int))&&F.getD (i:Int).toNat false)=_
 rw [Int.toNat_natCast]
 simp
theorem V8 {m:Mc} {Z:List Int} {n:Nat} {D B:Int} {z o:Nat→Prop} {R:List Ce} (hM:MzOk m Z n) (hl:V7 m=true) (hR:RwI n D B z o R) (ho:∀i,i < n→m.F.getD i false=true→o i) (hs:aw m.N n R):RwI n D B z (fun _=>True) R:=
 ⟨hR.len,hR.rng,hR.bd,hR.zer,fun i hi _=>by
   have hk:=List.all_eq_true.1 hl i (List.mem_range.2 (by rw [hM.many];exact hi))
   refine V6 (fun i=>i < n→∃c,R[i]?=some c∧c.ok=true) (fun i h hi=>hR.way i hi (ho i hi h)) (fun i to h1 h2 h3 hi=>?_) 4 i hk hi
   have hto:to.toNat < n:=by
    rw [List.getD_eq_getElem?_getD] at h1
    cases hr:m.N[i]? with
    | none=>rw [hr] at h1;simp at h1
    | some r=>
      rw [hr] at h1
      have:=hM.to r (List.mem_of_getElem? hr) to h1
      omega
   exact hs i to hi h1 h2 (h3 hto)⟩
theorem bC {m:Mc} {Z:List Int} {n:Nat} {R:List Ce} (hM:MzOk m Z n) (hRl:R.length=n) (hRd:∀j,j < n→R[j]?=some (if m.F.getD j false=true then ⟨0,0,true⟩ else .non)):RwI n 0 84000 (fun i=>Hj m.N m.F i []=true) (fun i=>m.F.getD i false=true) R:=by
 have:=RwI.mk0 (D:=0) (B:=0) (z:=fun i=>Hj m.N m.F i []=true) (o:=fun i=>m.F.getD i false=true) hRl hM.n40 (by omega) (fun c hc=>?_) (fun i hi=>?_) (fun i hi ho=>?_)
 ·exact this
 ·obtain ⟨j,hj⟩:=List.mem_iff_getElem?.1 hc
  rw [hRd j (by rw [←hRl];exact (List.getElem?_eq_some_iff.1 hj).1)] at hj
  simp only [Option.some.injEq] at hj
  subst hj
  split<;>exact ⟨Int.le_refl _,Int.le_refl _,Int.le_refl _,Int.le_refl _⟩
 ·rw [hRd i hi,dj]
  split
  ·rename_i h
   exact ⟨fun _=>h,fun _=>rfl⟩
  ·rename_i h
   exact ⟨fun e=>by simp [Ce.non] at e,fun e=>absurd e h⟩
 ·exact ⟨_,hRd i hi,by rw [if_pos ho]⟩
theorem gQ (T0:List V) (hT:∀x∈T0,x.kill 2=x) (n L:Nat) (c:Ce) (v7:List Value) (G:List (List Ce)):(BC 2 (FB (.agg T0) n L (some (.row 3 [.agg [.int .i64 c.d,.int .i64 c.f,.bool c.ok]])) v7 G)).set 2 none=FB (.agg T0) n L none v7 G:=by
 have e:AF 2 T0=T0:=by
  rw [Io]
  exact (List.map_congr_left hT).trans (List.map_id' T0)
 unfold FB
 rw [BR,BR,BR,DQ,DQ,DQ,DQ,BR,Js]
 simp [Ob.kill,Jt,AF,V.kill,e]
theorem bD (N:List (List Int)) (F:List Bool) (q:Nat) (kid:Int) (w:List Int):Hj N F q (kid::w)=true↔0≤(N.getD q []).getD kid.toNat (-1)∧Hj N F (((N.getD q []).getD kid.toNat (-1)).toNat:Nat) w=true:=by
 have e:GL N q (kid::w)=GL N ((N.getD q []).getD kid.toNat (-1)) w:=by
  show GL N (V4 N q kid) w=_
  unfold V4
  rw [if_pos (by omega),Int.toNat_natCast]
 unfold Hj
 rw [e]
 generalize (N.getD q []).getD kid.toNat (-1)=to
 by_cases h:0≤to
 ·rw [show ((to.toNat:Nat):Int)=to by omega]
  exact ⟨fun x=>⟨h,x⟩,fun x=>x.2⟩
 ·rw [Qk N to (by omega)]
  constructor
  ·intro x;simp at x;omega
  ·intro x;exact absurd x.1 h
theorem RwI.cz {n:Nat} {D B:Int} {z z' o:Nat→Prop} {R:List Ce} (h:RwI n D B z o R) (e:∀i,z i↔z' i):RwI n D B z' o R:=⟨h.len,h.rng,h.bd,fun i hi=>(h.zer i hi).trans (e i),h.way⟩
theorem bE {m:Mc} {Z:List Int} {w:List Int} {n j:Nat} {R1 R:List Ce} (hM:MzOk m Z n) (hw:w.length≤12) (hj:j < w.length) (h1:Ql m w n (j+1) R1) (hR:R.length=n) (hx:∀q,q < n→R[q]?=some (GK m.N R1 (w.getD j 0) q)):Ql m w n j R:=by
 unfold Ql at*
 have h2:=gD h1 hM.many hM.n40 (fun r hr y hy=>(hM.to r hr y hy).2) (by omega) (fun _ _=>trivial) hR hx
 have e1:((w.length - (j+1):Nat):Int)+1=((w.length - j:Nat):Int):=by omega
 have e2:84000*((w.length - (j+1)+1:Nat):Int)+84000=84000*((w.length - j+1:Nat):Int):=by omega
 rw [e1,e2] at h2
 refine h2.cz fun q=>?_
 obtain ⟨y,hy⟩:∃y,w[j]?=some y:=⟨_,List.getElem?_eq_getElem hj⟩
 have e3:w.drop j=w.getD j 0::w.drop (j+1):=by
  rw [List.drop_eq_getElem_cons hj,List.getD_eq_getElem?_getD,List.getElem?_eq_getElem hj]
  rfl
 rw [e3]
 exact (bD m.N m.F q (w.getD j 0) (w.drop (j+1))).symm
set_option maxHeartbeats 16000000 in
theorem Xw {C:Ctx} {σ:ES} {fop:Operand} {args:List Operand} {K:V→ES→Prop} (hE:EOk Tryz.tt C) (hC:C.P=Tryz.prog) {ty:List V} {ms:List Mc} {Z:List Int} {m:Mc} {w:List Int} {n k:Nat}
 (hM:MzOk m Z n) (hlv:V7 m=true) (hm:ms[k]?=some m) (hw:w.length≤12) (hwr:∀x∈w,0≤x∧x < 7)
 (he:BO σ fop args=some (23,[.rp [.lst ty,.lst (ms.map BB),AL Z],.int .i64 k,AL w]))
 (hh:σ.heap=[none,none,none,none,none,none,none,none])
 (hK:∀G R,G.length=w.length+1→G[0]?=some R→Ql m w n 0 R→K (.ptr 0 0 0) ⟨σ.n,[],kR (C3 ty (ms.map BB) Z m w (w.length+1)) n (w.length+1) G⟩):
 CallN C fop args 23 [.rp [.lst ty,.lst (ms.map BB),AL Z],.int .i64 k,AL w] K σ:=by
 obtain ⟨sn,u,h⟩:=σ
 simp only at hh hK
 subst hh
 refine Ha (T:=Tryz.tt) hC Tryz.func23 rfl UO he (Nat.le_of_ble_eq_true (by kernel_rfl)) 7 [] rfl rfl fun v7 hfree=>?_
 have hc0:Bl (((Tryz.f23).body).getD .skip)=true:=by kernel_rfl
 refine JZ hE hc0 ?_
 clear he hfree
 have hml:(ms.map BB).length=ms.length:=by simp
 have hkl:k < ms.length:=(List.getElem?_eq_some_iff.1 hm).1
 have gm:(ms.map BB)[Int.toNat (k:Int)]?=some (.agg [.lst (m.N.map AL),.lst (m.F.map V.bool)]):=by rw [Int.toNat_natCast,List.getElem?_map,hm];rfl
 have hwm:(w.map (V.int .i64)).length=w.length:=by simp
 unfold AL at*
 conv=>whnf
 repeat' (first|refine AO ?_|refine AV ?_|refine Ad ?_|intro hlen)<;>conv=>whnf
 refine Ab (fun i:Nat=>⟨154,[(2,.lst (w.map (V.int .i64))),(7,.ptr 0 0 0),(28,.int .i64 ((w.length:Int)+1)),(29,.int .i64 i)],FB (C3 ty (ms.map BB) Z m w i) n i none v7 (List.replicate i (ED n))⟩) (fun i=>i≤w.length+1) (fun i=>w.length+1 - i) 0 hE ?_ (Nat.zero_le _) ?_
 ·refine P5 0 1 (zz:=5) (x:=jT ty (ms.map BB) Z m w) (x':=C3 ty (ms.map BB) Z m w 0) rfl ?_ rfl (AP [2,7,28,29] ?_)
  ·exact P4 _ [_,_,_,_] []
  ·conv=>whnf
   rw [hwm]
   rfl
 intro i hi
 have hi:i≤w.length+1:=hi
 by_cases hlt:i < w.length+1
 ·have hNm:(m.N.map AL).length=n:=by rw [List.length_map,hM.many]
  have hn40:=hM.n40
  have hsl:=FQ 8 n i
  clear hi
  obtain rfl|rfl|rfl|rfl|rfl|rfl|rfl|rfl|rfl|rfl|rfl|rfl|rfl:i=0∨i=1∨i=2∨i=3∨i=4∨i=5∨i=6∨i=7∨i=8∨i=9∨i=10∨i=11∨i=12:=by omega
  all_goals
   conv=>whnf
   repeat' (first|refine A2 ?_|refine AO ?_|refine AV ?_|refine EN (Nat.le_refl 1) ?_|(refine EN ⟨?_,?_,?_⟩ ?_;(rw [hsl];exact Nat.le_refl _);(show _+1≤9223372036854775807;omega);(show (_+1)*24≤140737488355328;omega))|(refine KN hE [⟨2,[(0,none),(1,none),(2,none),(3,none),(4,none),(5,none),(6,none),(7,none),(8,none),(9,none),(10,none),(11,some 0),(12,some 1)],some 13,[0],[[],[0]],[]⟩,⟨0,[(14,none),(15,none)],some 16,[],[[]],[]⟩] ?_ ?_;decide +kernel)|refine By ?_|refine JM ?_ ?_)<;>conv=>whnf
   all_goals
    refine Xv _ hlt rfl rfl rfl rfl ?_
    simp only [hNm,Int.toNat_natCast,gP,eSegs.trimH',BR,DQ,Ob.kill,Li]
    simp [AF,V.kill,FB,C3,CJ,Dq,AL,List.range,List.range.loop,BC,Ob.kill,Li,eSegs.trimH',List.replicate_succ]
 ·obtain rfl:i=w.length+1:=by omega
  conv=>whnf
  repeat' (first|refine A1 ?_|intro hlen)<;>conv=>whnf
  have hFm:(m.F.map V.bool).length=n:=by rw [List.length_map,hM.fin]
  have hkl2:w.length < (List.replicate (w.length+1) (ED n)).length:=by simp
  have hset0:(List.replicate (w.length+1) (ED n)).set w.length (ED n)=List.replicate (w.length+1) (ED n):=by
   refine List.ext_getElem? fun j=>?_
   rw [List.getElem?_set]
   split
   ·rename_i e;subst e;simp
   ·rfl
  refine Ab (fun ((i,R):Nat×List Ce)=>⟨154,[(2,.lst (w.map (V.int .i64))),(7,.ptr 0 0 0),(52,.lst (m.F.map V.bool)),(53,.int .i64 n),(54,.int .i64 i)],FB (C3 ty (ms.map BB) Z m w (w.length+1)) n (w.length+1) none v7 ((List.replicate (w.length+1) (ED n)).set w.length R)⟩)
   (fun (i,R)=>i≤n∧R.length=n∧(∀j,j < i→R[j]?=some (if m.F.getD j false=true then ⟨0,0,true⟩ else .non))∧PJ R i n) (fun (i,_)=>n - i) (0,ED n) hE ?_ ⟨Nat.zero_le _,by simp [ED],fun j hj=>by omega,fun j _ hj=>by simp [ED,hj]⟩ ?_
  ·refine AP [2,7,52,53,54] ?_
   show fH _ _
   refine B3 ?_
   show _=(⟨154,_,FB _ _ _ _ _ _⟩:ES)
   rw [hset0]
   show (⟨_,[_,_,_,(53,.int .i64 ((m.F.map V.bool).length:Nat)),_],_⟩:ES)=_
   rw [hFm]
   rfl
  rintro ⟨i,R⟩ ⟨hi,hRl,hRd,hRn⟩
  by_cases hin:i < n
  ·obtain ⟨b,hb⟩:∃b,m.F.getD i false=b:=⟨_,rfl⟩
   have gF:(m.F.map V.bool)[Int.toNat (i:Int)]?=some (.bool b):=by
    rw [Int.toNat_natCast,List.getElem?_map,List.getElem?_eq_getElem (by rw [hM.fin];exact hin),←hb,List.getD_eq_getElem?_getD,List.getElem?_eq_getElem (by rw [hM.fin];exact hin)]
    rfl
   have ha:=hRn i (Nat.le_refl _) hin
   have hGk:((List.replicate (w.length+1) (ED n)).set w.length R)[(w.map (V.int .i64)).length]?=some R:=by rw [hwm];exact Ej hkl2 R
   have hGL:((List.replicate (w.length+1) (ED n)).set w.length R).length=w.length+1:=by simp
   have hn2:∀c,c=(if m.F.getD i false=true then (⟨0,0,true⟩:Ce) else .non)→(R.set i c).length=n∧(∀j,j < i+1→(R.set i c)[j]?=some (if m.F.getD j false=true then ⟨0,0,true⟩ else .non))∧PJ (R.set i c) (i+1) n:=fun c hc=>by
    refine ⟨by simp [hRl],fun j hj=>?_,fun j h1 h2=>?_⟩
    ·rw [List.getElem?_set]
     split
     ·rename_i e;subst e;rw [if_pos (by omega),hc]
     ·exact hRd j (by omega)
    ·rw [List.getElem?_set,if_neg (by omega)]
     exact hRn j (by omega) h2
   cases b with
   | true=>
     have h3:=hn2 ⟨0,0,true⟩ (by rw [if_pos hb])
     conv=>whnf
     repeat' (first|refine A2 ?_|refine AO ?_|refine AV ?_|refine Ad ?_|refine PF (d:=0) (f:=0) hE hC hGk hGL hRl ha rfl [7,2,52,53,54,54,8] rfl rfl rfl rfl ?_|intro hlen)<;>conv=>whnf
     refine AD [2,7,52,53,54] (i+1,R.set i ⟨0,0,true⟩) ⟨hin,h3.1,h3.2.1,h3.2.2⟩ (by show n - (i+1) < n - i;omega) ?_
     show fH _ _
     refine B3 ?_
     show (⟨_,_,FB _ _ _ _ _ (((List.replicate (w.length+1) (ED n)).set w.length R).set (w.map (V.int .i64)).length _)⟩:ES)=_
     rw [hwm,List.set_set]
     rfl
   | false=>
     have h3:=hn2 .non (by rw [hb];rfl)
     have hRe:R.set i .non=R:=by
      refine List.ext_getElem? fun j=>?_
      rw [List.getElem?_set]
      split
      ·rename_i e;subst e;rw [if_pos (by omega),ha]
      ·rfl
     rw [hRe] at h3
     conv=>whnf
     repeat' (first|refine A2 ?_|refine AO ?_|refine AV ?_|refine Ad ?_)<;>conv=>whnf
     refine AD [2,7,52,53,54] (i+1,R) ⟨hin,h3.1,h3.2.1,h3.2.2⟩ (by show n - (i+1) < n - i;omega) ?_
     show fH _ _
     refine B3 ?_
     rfl
  ·obtain rfl:i=n:=by omega
   have hrl:=bC hM hRl hRd
   have hGk:((List.replicate (w.length+1) (ED i)).set w.length R)[(w.map (V.int .i64)).length]?=some R:=by rw [hwm];exact Ej hkl2 R
   have hGL:((List.replicate (w.length+1) (ED i)).set w.length R).length=w.length+1:=by simp
   conv=>whnf
   repeat' (first|refine A1 ?_|intro hlen)<;>conv=>whnf
   refine PI hE hC hM hGk hGL hrl (by omega) (by omega) [7,2,69] rfl rfl rfl rfl fun R' hR1 hSh=>?_
   have hrow:Ql m w i w.length R':=by
    have:=V8 hM hlv hR1 (fun _ _ h=>h) hSh
    unfold Ql
    rw [List.drop_length,Nat.sub_self]
    exact this
   clear hR1 hSh hrl hGk hRd hRn hRl
   rw [JY]
   conv=>whnf
   repeat' (first|refine AV ?_|refine B3 ?_|intro hlen)<;>conv=>whnf
   refine Ab (fun ((j,y,G):Nat×Int×List (List Ce))=>⟨154,[(2,.lst (w.map (V.int .i64))),(7,.ptr 0 0 0),(10,.int .i64 y)],FB (C3 ty (ms.map BB) Z m w (w.length+1)) i (w.length+1) none v7 G⟩)
    (fun (j,y,G)=>j≤w.length∧G.length=w.length+1∧(∃R,G[j]?=some R∧Ql m w i j R)∧(∀l,l < j→G[l]?=some (ED i))∧y=(j:Int) - 1) (fun (j,_,_)=>j) (w.length,(w.length:Int) - 1,(List.replicate (w.length+1) (ED i)).set w.length R') hE ?_ ⟨Nat.le_refl _,by simp,⟨R',Ej hkl2 R',hrow⟩,fun l hl=>by rw [List.getElem?_set,if_neg (by omega),List.getElem?_replicate,if_pos (by omega)],by omega⟩ ?_
   ·refine AP [2,7,10] ?_
    show fH _ _
    refine B3 ?_
    show (⟨_,[_,_,(10,.int .i64 (((w.map (V.int .i64)).length:Nat) - 1:Int))],FB _ _ _ _ _ (((List.replicate (w.length+1) (ED i)).set w.length R).set (w.map (V.int .i64)).length R')⟩:ES)=_
    rw [hwm,List.set_set]
   clear hrow hkl2 hset0 hFm
   rintro ⟨j,y,G⟩ ⟨hj,hGl,⟨R1,hG1,hR1⟩,hGn,hy⟩
   cases j with
   | zero=>
     obtain rfl:y= -1:=by omega
     have hend:=hK G R1 hGl hG1 hR1
     conv=>whnf
     repeat' refine A1 ?_<;>conv=>whnf
     refine HZ hE ?_
     conv=>whnf
     exact ⟨rfl,hend⟩
   | succ j=>
     obtain rfl:y=(j:Int):=by omega
     have hNm:(m.N.map AL).length=i:=by rw [List.length_map,hM.many]
     conv=>whnf
     repeat' (first|refine A2 ?_|intro hlen)<;>conv=>whnf
     refine Ab (fun ((x,R):Nat×List Ce)=>⟨154,[(2,.lst (w.map (V.int .i64))),(7,.ptr 0 0 0),(10,.int .i64 j),(82,.lst (m.N.map AL)),(83,.int .i64 i),(84,.int .i64 x)],FB (C3 ty (ms.map BB) Z m w (w.length+1)) i (w.length+1) none v7 (G.set j R)⟩)
      (fun (x,R)=>x≤i∧R.length=i∧(∀q,q < x→R[q]?=some (GK m.N R1 (w.getD j 0) q))∧PJ R x i) (fun (x,_)=>i - x) (0,ED i) hE ?_ ⟨Nat.zero_le _,by simp [ED],fun q hq=>by omega,fun q _ hq=>by simp [ED,hq]⟩ ?_
     ·have hGe:G.set j (ED i)=G:=by
       refine List.ext_getElem? fun l=>?_
       rw [List.getElem?_set]
       split
       ·rename_i e;subst e;rw [if_pos (by omega),hGn j (by omega)]
       ·rfl
      refine AP [2,7,10,82,83,84] ?_
      show fH _ _
      refine B3 ?_
      show (⟨_,[_,_,_,_,(83,.int .i64 ((m.N.map AL).length:Nat)),_],_⟩:ES)=(⟨154,_,FB _ _ _ _ _ (G.set j (ED i))⟩:ES)
      rw [hNm,hGe]
      rfl
     rintro ⟨x,R⟩ ⟨hx,hRl,hRd,hRn⟩
     by_cases hxi:x < i
     ·obtain ⟨row,hrow⟩:∃row,m.N[x]?=some row:=⟨_,List.getElem?_eq_getElem (by have:=hM.many;omega)⟩
      have hrm:=List.mem_of_getElem? hrow
      have h8:=hM.rows row hrm
      have gN:m.N[Int.toNat (x:Int)]?=some row:=by rw [Int.toNat_natCast];exact hrow
      obtain ⟨kd,hkd⟩:∃kd,w[j]?=some kd:=⟨_,List.getElem?_eq_getElem (by omega)⟩
      have hkb:=hwr kd (List.mem_of_getElem? hkd)
      have gW:w[Int.toNat (j:Int)]?=some kd:=by rw [Int.toNat_natCast];exact hkd
      obtain ⟨to,hto⟩:∃to,row[kd.toNat]?=some to:=⟨_,List.getElem?_eq_getElem (by omega)⟩
      have htb:=hM.to row hrm to (List.mem_of_getElem? hto)
      have hrl:(row.map (V.int .i64)).length=8:=by rw [List.length_map,h8]
      have hto2:(m.N.getD x []).getD (w.getD j 0).toNat (-1)=to:=by
       rw [List.getD_eq_getElem?_getD (l:=m.N),hrow,Option.getD_some,List.getD_eq_getElem?_getD (l:=w),hkd,Option.getD_some,List.getD_eq_getElem?_getD,hto,Option.getD_some]
      have hR1l:=hR1.len
      obtain ⟨r1,hr1,hr1k⟩:=hR1.way x hxi trivial
      have hr1b:=hR1.rng r1 (List.mem_of_getElem? hr1)
      have hr1f:=hR1.fb (List.mem_of_getElem? hr1)
      have hax:=hRn x (Nat.le_refl _) hxi
      have hGm:∀R',(G.set j R').length=w.length+1:=fun R'=>by rw [List.length_set,hGl]
      have hGj:∀R',(G.set j R')[j]?=some R':=fun R'=>Ej (by omega) R'
      have hss:(Dq 8 i (w.length+1)).length=w.length+1:=FQ 8 i (w.length+1)
      have hR1m:(R1.map G0).length=i:=by rw [List.length_map,hR1l]
      have g1:(Dq 8 i (w.length+1))[0+Int.toNat ((j:Int)+1)]?=some (.sl (j+1+8) 0 i):=by
       rw [Nat.zero_add,show Int.toNat ((j:Int)+1)=j+1 by omega,M5 (by omega)]
      have g2:∀o2 R',(FB (C3 ty (ms.map BB) Z m w (w.length+1)) i (w.length+1) o2 v7 (G.set j R'))[j+1+8]?=some (some (.row 3 (R1.map G0))):=fun o2 R'=>by
       show ((G.set j R').map CJ)[j+1]?=_
       rw [List.getElem?_map,List.getElem?_set,if_neg (by omega),hG1]
       rfl
      have gr1:(R1.map G0)[0+Int.toNat (x:Int)]?=some (.agg [.int .i64 r1.d,.int .i64 r1.f,.bool r1.ok]):=by rw [Nat.zero_add,Int.toNat_natCast,List.getElem?_map,hr1];rfl
      obtain ⟨rd,rf,rk⟩:=r1
      dsimp only at hr1k hr1b hr1f gr1
      subst hr1k
      have hpl:=V1 rd rf 1 0 (by omega) (by omega) (by omega) (by omega)
      rw [Int.add_zero] at hpl
      unfold Dx at hpl
      have hgd:R1.getD x .non=⟨rd,rf,true⟩:=by rw [List.getD_eq_getElem?_getD,hr1];rfl
      have hn3:∀c,c=GK m.N R1 (w.getD j 0) x→(R.set x c).length=i∧(∀q,q < x+1→(R.set x c)[q]?=some (GK m.N R1 (w.getD j 0) q))∧PJ (R.set x c) (x+1) i:=fun c hc=>by
       refine ⟨by simp [hRl],fun q hq=>?_,fun q h1 h2=>?_⟩
       ·rw [List.getElem?_set]
        split
        ·rename_i e;subst e;rw [if_pos (by omega),hc]
        ·exact hRd q (by omega)
       ·rw [List.getElem?_set,if_neg (by omega)]
        exact hRn q (by omega) h2
      have fin:∀(R':List Ce) (u:List (Nat×V)) (h:List (Option Ob)),R'.length=i∧(∀q,q < x+1→R'[q]?=some (GK m.N R1 (w.getD j 0) q))∧PJ R' (x+1) i→
       (Az [2,7,10,82,83,84] u).map (fun p=>(p.1,p.2.kill 2))=[(2,.lst (w.map (V.int .i64))),(7,.ptr 0 0 0),(10,.int .i64 j),(82,.lst (m.N.map AL)),(83,.int .i64 i),(84,.int .i64 ((x:Int)+1))]→h=FB (C3 ty (ms.map BB) Z m w (w.length+1)) i (w.length+1) (some (.row 3 [.agg [.int .i64 rd,.int .i64 rf,.bool true]])) v7 (G.set j R')→
       UpE C (Wf (fun ((x,R):Nat×List Ce)=>⟨154,[(2,.lst (w.map (V.int .i64))),(7,.ptr 0 0 0),(10,.int .i64 j),(82,.lst (m.N.map AL)),(83,.int .i64 i),(84,.int .i64 x)],FB (C3 ty (ms.map BB) Z m w (w.length+1)) i (w.length+1) none v7 (G.set j R)⟩)
        (fun (x,R)=>x≤i∧R.length=i∧(∀q,q < x→R[q]?=some (GK m.N R1 (w.getD j 0) q))∧PJ R x i) (fun (x,_)=>i - x) (x,R)) ⟨154,u,h⟩:=fun R' u h hf hu hh=>by
       subst hh
       refine Bm [2,7,10,82,83,84] (BN 2 (B5 (σ':=⟨154,[(2,.lst (w.map (V.int .i64))),(7,.ptr 0 0 0),(10,.int .i64 j),(82,.lst (m.N.map AL)),(83,.int .i64 i),(84,.int .i64 ((x:Int)+1))],FB (C3 ty (ms.map BB) Z m w (w.length+1)) i (w.length+1) none v7 (G.set j R')⟩) (AD [2,7,10,82,83,84] (x+1,R') ⟨by omega,hf.1,hf.2.1,hf.2.2⟩ (by show i - (x+1) < i - x;omega) ?_) ?_))
       ·show fH _ _
        refine B3 ?_
        rfl
       ·rw [hu]
        have:=gQ [.rp [.lst ty,.lst (ms.map BB),AL Z],.lst (m.N.map AL),.lst (m.F.map V.bool),AL w,.sl 1 0 (w.length+1)] (by simp [V.kill,AL]) i (w.length+1) ⟨rd,rf,true⟩ v7 (G.set j R')
        exact congrArg (fun h=>(⟨154,_,h⟩:ES)) this
      by_cases h0:0≤to
      ·obtain ⟨c,hc,hck⟩:=hR1.way to.toNat (by omega) trivial
       obtain ⟨cd,cf,ck⟩:=c
       dsimp only at hck
       subst hck
       have g3:(R1.map G0)[0+Int.toNat to]?=some (.agg [.int .i64 cd,.int .i64 cf,.bool true]):=by rw [Nat.zero_add,List.getElem?_map,hc];rfl
       have g2b:∀o2 R' R'',(FB (C3 ty (ms.map BB) Z m w (w.length+1)) i (w.length+1) o2 v7 ((G.set j R').set j R''))[j+1+8]?=some (some (.row 3 (R1.map G0))):=fun o2 R' R''=>by
        rw [List.set_set]
        exact g2 o2 R''
       have hvia:Ki m.N R1 (w.getD j 0) x=⟨cd,cf,true⟩:=by
        unfold Ki
        rw [hto2,List.getD_eq_getElem?_getD,hc,Option.getD_some,if_pos ⟨h0,rfl⟩]
       conv=>whnf
       repeat' (first|refine A2 ?_|refine AO ?_|refine AV ?_|refine Ad ?_|refine Hk ?_|refine HG (g2 _ _) ?_|refine HG (g2b _ _ _) ?_|refine PF (d:=cd) (f:=cf) (b:=true) hE hC (hGj R) (hGm R) hRl hax rfl [7,2,82,83,84,10,11] rfl rfl rfl rfl ?_|refine B3 ?_|refine AN hpl hC Gp ?_)<;>conv=>whnf
       obtain ⟨b2,hb2⟩:∃b2,Ip ⟨cd,cf,true⟩ (rd+1) rf=b2:=⟨_,rfl⟩
       have hax2:(R.set x ⟨cd,cf,true⟩)[x]?=some ⟨cd,cf,true⟩:=List.getElem?_set_self (by omega)
       have hRl2:(R.set x ⟨cd,cf,true⟩).length=i:=by rw [List.length_set,hRl]
       have hGj2:((G.set j R).set j (R.set x ⟨cd,cf,true⟩))[j]?=some (R.set x ⟨cd,cf,true⟩):=Ej (by rw [hGm];omega) _
       have hGm2:((G.set j R).set j (R.set x ⟨cd,cf,true⟩)).length=w.length+1:=by rw [List.length_set,hGm]
       refine PH (c:=⟨rd,rf,true⟩) (d:=rd+1) (f:=rf) (b:=b2) hE hC hGj2 hGm2 hRl2 hax2 hb2 [7,2,82,83,84,10,11] rfl rfl rfl rfl ?_
       cases b2 with
       | true=>
         conv=>whnf
         repeat' refine AV ?_<;>conv=>whnf
         refine fin (R.set x ⟨rd+1,rf,true⟩) _ _ (hn3 _ ?_) rfl ?_
         ·unfold GK
          rw [hgd,hvia,if_pos ⟨rfl,hb2⟩]
         ·show FB _ _ _ _ _ (((G.set j R).set j (R.set x _)).set j ((R.set x _).set x _))=_
          rw [List.set_set,List.set_set,List.set_set]
       | false=>
         conv=>whnf
         repeat' refine AV ?_<;>conv=>whnf
         refine fin (R.set x ⟨cd,cf,true⟩) _ _ (hn3 _ ?_) rfl ?_
         ·unfold GK
          rw [hgd,hvia,if_neg (fun e=>by have e2:=e.2;rw [hb2] at e2;cases e2)]
         ·show FB _ _ _ _ _ ((G.set j R).set j (R.set x _))=_
          rw [List.set_set]
      ·conv=>whnf
       repeat' (first|refine A2 ?_|refine A1 ?_|refine AO ?_|refine AV ?_|refine Ad ?_|refine Hk ?_|refine HG (g2 _ _) ?_|refine B3 ?_|refine AN hpl hC Gp ?_)<;>conv=>whnf
       refine PH (c:=⟨rd,rf,true⟩) (d:=rd+1) (f:=rf) (b:=true) hE hC (hGj R) (hGm R) hRl hax rfl [7,2,82,83,84,10,11] rfl rfl rfl rfl ?_
       conv=>whnf
       repeat' refine AV ?_<;>conv=>whnf
       refine fin (R.set x ⟨rd+1,rf,true⟩) _ _ (hn3 _ ?_) rfl ?_
       ·have hvia:Ki m.N R1 (w.getD j 0) x= .non:=by
         unfold Ki
         rw [hto2,if_neg (fun h=>h0 h.1)]
        unfold GK
        rw [hgd,hvia,if_pos ⟨rfl,rfl⟩]
       ·show FB _ _ _ _ _ ((G.set j R).set j _)=_
        rw [List.set_set]
     ·obtain rfl:x=i:=by omega
      have hrow:=bE hM hw (by omega) hR1 hRl hRd
      unfold Ql at hrow
      have hGk:=Ej (G:=G) (k:=j) (by omega) R
      have hGk2:(G.set j R).length=w.length+1:=by rw [List.length_set,hGl]
      conv=>whnf
      repeat' refine A1 ?_<;>conv=>whnf
      refine PI hE hC hM hGk hGk2 hrow (by omega) (by omega) [7,2,10] rfl rfl rfl rfl fun R' hR2 hSh=>?_
      have hrow2:Ql m w x j R':=V8 hM hlv hR2 (fun _ _ _=>trivial) hSh
      rw [JY]
      conv=>whnf
      repeat' (first|refine AV ?_|refine B3 ?_)<;>conv=>whnf
      refine AD [2,7,10] (j,(j:Int) - 1,G.set j R') ⟨by omega,by rw [List.length_set,hGl],⟨R',Ej (by omega) R',hrow2⟩,fun l hl=>by rw [List.getElem?_set,if_neg (by omega)];exact hGn l (by omega),rfl⟩ (by show j < j+1;omega) ?_
      show fH _ _
      refine B3 ?_
      show (⟨_,_,FB _ _ _ _ _ ((G.set j R).set j R')⟩:ES)=_
      rw [List.set_set]
theorem jM {h:Ch} {Z:List Int} (hS:SchOk h Z) {c:List UInt8} {x:Ex} {m:Mc} (hm:MachOk c x m):MzOk m Z m.N.length:=⟨rfl,hm.pos,hm.many,hm.fin,hm.rows,hm.to,hm.ty,hS.len,hS.pos⟩
theorem jN {h:Ch} (hk:h.ok) {k:Nat} (hk6:k < 6) {x:Ex} {m:Mc} (hx:(ij h)[k]?=some x) (hm:(N8 h)[k]?=some m):TwOk x m:=by
 obtain ⟨x',m',h1,h2,h3⟩:=jS hk k hk6
 rw [hx] at h1
 rw [hm] at h2
 cases h1
 cases h2
 exact h3
theorem jO (h:Ch) {k:Nat} (hk6:k < 6) {t:Ty} (ht:(In h)[k]?=some t):t.name≠[]:=by
 obtain rfl|rfl|rfl|rfl|rfl|rfl:k=0∨k=1∨k=2∨k=3∨k=4∨k=5:=by omega
 all_goals
  cases ht
  simp
def ao (n:Nat) (x:Int):Bool:=decide (x < 0) || decide ((n:Int)≤x)
theorem Xo (T:List V) (x:Int):Fn1 Tryz.prog 48 [.int .i64 x,.rp [.lst T]] (fun r=>r= .bool (ao T.length x)):=by
 refine Ax Tryz.func48 fun C hC hE=>?_
 conv=>whnf
 repeat' (first|refine GV (fun h=>?_) (fun h=>?_)|refine AC hE ?_|intro hlen)<;>conv=>whnf
 all_goals exact ⟨rfl,by unfold ao;congr 1;simp;omega⟩
set_option maxHeartbeats 4000000 in
theorem Xp {h:Ch} {Z:List Int} (hS:SchOk h Z) {k:Nat} (hk6:k < 6) {t:Ty} (ht:(In h)[k]?=some t) {w:List Int} (hw:w.length≤12) (hwr:∀x∈w,0≤x∧x < 7):
 Fn1G Tryz.prog GT 22 [.lst ((In h).map Cy),.int .i64 k,AL w] (fun r=>r= .tup [.rp [.lst ((In h).map Cy),.lst ((N8 h).map BB),AL Z],.int .i64 0]):=by
 have hnm:=jO h hk6 ht
 obtain ⟨nm,ct,at'⟩:=t
 dsimp only at hnm
 have gt:((In h).map Cy)[Int.toNat (k:Int)]?=some (.agg [.str nm,.str ct,.lst (at'.map V.str)]):=by rw [Int.toNat_natCast,List.getElem?_map,ht];rfl
 have htl:((In h).map Cy).length=7:=rfl
 have hnr:=am (In h)
 have hn:=hS.new
 have hwm:(w.map (V.int .i64)).length=w.length:=by simp
 have hcf:=B8 w 48 [.rp [.lst ((In h).map Cy)]] (ao ((In h).map Cy).length) UX (by kernel_rfl) (fun q _=>Xo _ q)
 have hany:w.any (ao ((In h).map Cy).length)=false:=by
  rw [List.any_eq_false,htl]
  intro x hx
  have:=hwr x hx
  unfold ao
  simp;omega
 rw [hany] at hcf
 unfold AL at*
 generalize (In h).map Cy=T at*
 refine GN Tryz.func22 fun C hC hW hG hE=>?_
 conv=>whnf
 have hn':=hn.c hC hW CD hG
 repeat' (first|refine A2 ?_|refine A1 ?_|refine AO ?_|refine Ad ?_|refine EL hn' hC NY rfl ?_|intro hlen)<;>conv=>whnf
 refine AY (AK 0 (z:=1) (els:=[.lst T]) rfl ?_ (AH ?_))
 ·exact ⟨by simp [V.nr,hnr],trivial⟩
 conv=>whnf
 repeat' (first|refine AN hcf hC EF ?_|refine AC hE ?_)<;>conv=>whnf
 all_goals exact ⟨rfl,rfl⟩
set_option maxHeartbeats 8000000 in
theorem ap {h:Ch} {Z:List Int} (hS:SchOk h Z) {k:Nat} (hk6:k < 6) {t:Ty} {x:Ex} {m:Mc} (ht:(In h)[k]?=some t) (hm:(N8 h)[k]?=some m) (hmo:MachOk t.content x m) (hlv:V7 m=true) {w:List Int} (hw:w.length≤12) (hwr:∀x∈w,0≤x∧x < 7):
 Fn1G Tryz.prog GT 11 [.lst ((In h).map Cy),.int .i64 k,AL w] (fun r=>∃d f:Int,r= .tup [.int .i64 d,.int .i64 f,.int .i64 0]∧((d=0∧f=0)↔Hj m.N m.F 0 w=true)):=by
 have hM:=jM hS hmo
 have hf:=Xp hS hk6 ht hw hwr
 generalize hn:m.N.length=n at*
 unfold AL at*
 generalize (In h).map Cy=T at*
 refine GN Tryz.func11 fun C hC hW hG hE=>?_
 conv=>whnf
 have hf':=hf.c hC hW CD hG
 repeat' (first|refine A2 ?_|refine EL hf' hC UN rfl ?_)<;>conv=>whnf
 refine AY (Cx (Cx (Cx (Cx (Cx (Cx (Cx (Cx (AH ?_)))))))))
 conv=>whnf
 refine Xw hE hC hM hlv hm hw hwr rfl rfl fun G R hG0 hR0 hrow=>?_
 obtain ⟨G1,rfl⟩:∃G1,G=R::G1:=by
  cases G with
  | nil=>cases hR0
  | cons a G=>cases hR0;exact ⟨G,rfl⟩
 unfold kR
 have hs0:(Dq 8 n (w.length+1))[0+Int.toNat (0:Int)]?=some (.sl 8 0 n):=by
  show (Dq 8 n (w.length+1))[0]?=_
  rw [M5 (by omega)]
 have hss:(Dq 8 n (w.length+1)).length=w.length+1:=FQ 8 n _
 have hRl:=hrow.len
 have hn1:=hM.n1
 have hz:=hrow.zer 0 (by omega)
 obtain ⟨c,hc,hck⟩:=hrow.way 0 (by omega) trivial
 obtain ⟨R1,rfl⟩:∃R1,R=c::R1:=by
  cases R with
  | nil=>cases hc
  | cons a R=>cases hc;exact ⟨R,rfl⟩
 obtain ⟨cd,cf,ck⟩:=c
 dsimp only at hck
 subst hck
 have hRm:(R1.map G0).length+1=n:=by rw [List.length_map];exact hRl
 generalize R1.map G0=R2 at*
 generalize G1.map CJ=G2 at*
 clear hrow hG0 hR0 hc
 conv=>whnf
 repeat' (first|refine AO ?_|refine Ad ?_|refine B3 ?_|(refine An hE ?_ ?_;decide +kernel)|refine AC hE ?_)<;>conv=>whnf
 refine ⟨rfl,cd,cf,rfl,?_⟩
 rw [←show Hj m.N m.F ((0:Nat):Int) (w.drop 0)=Hj m.N m.F 0 w from rfl,←hz]
 simp
set_option maxHeartbeats 16000000 in
theorem Qm (l kids:List Int) (t:Int) (hl:∀x∈l,-9223372036854775808≤x∧x≤9223372036854775807) (hki:∀x∈kids,-9223372036854775808≤x∧x≤9223372036854775807) (ht:-9223372036854775808≤t∧t≤9223372036854775807):
 Fn1G Tryz.prog GT 4 [AL l,.int .i64 t,AL kids] (fun r=>r= .bool true):=by
 have hk:=il l
 have hty:=UJ l hl
 rw [fZ] at hty
 generalize jh l=h at*
 obtain ⟨Z,hS⟩:=gA hk
 have hr:=Hi t (n:=6) (by omega)
 have hpk:=UI t 6 (by omega) ht (by omega)
 obtain ⟨k,hke⟩:∃k:Nat,Ft t 6=k:=⟨(Ft t 6).toNat,by omega⟩
 rw [hke] at hpk hr
 have hkd:=XN kids hki 12 (by omega) 7 (by omega) (by omega)
 have hw6:=Z8 kids 12 7
 have hwr:=Z7 kids 12 (t:=7) (by omega)
 generalize Dw kids 12 7=w at*
 have hw8:∀n∈w,0≤n∧n < 8:=fun n hn=>by have:=hwr n hn;omega
 obtain ⟨ty,x,m,g1,g2,g3,hmo⟩:=aS hk k (by omega)
 have htw:=jN hk (by omega) g2 g3
 have hp:=Mz ty.content
 rw [hmo.parse] at hp
 obtain ⟨b,hb,hmt⟩:=Xn x hmo.sz hmo.chk w (by omega) hw8
 rw [gO htw.bis w hw8] at hb
 have hct:=ap hS (by omega) g1 g3 hmo htw.liv hw6 hwr
 have hmk:=hmo.make
 have hrn:=ay m hmo.many hmo.pos hmo.fin hmo.rows hmo.to w (by omega) hw8
 have hmay:=kL m.N m.F
 rw [ax hmo.many hmo.pos hmo.fin hmo.rows hmo.to] at hmay
 have hrr:=V2 hmo.rows hmo.to hmo.pos w hw8 w.length (Nat.le_refl _)
 rw [List.take_length] at hrr
 have hfl:=hmo.fin
 have hFm:(m.F.map V.bool).length=m.F.length:=by simp
 obtain ⟨nm,ct,at'⟩:=ty
 have gt:((In h).map Cy)[Int.toNat (k:Int)]?=some (.agg [.str nm,.str ct,.lst (at'.map V.str)]):=by rw [Int.toNat_natCast,List.getElem?_map,g1];rfl
 have htl:((In h).map Cy).length=7:=rfl
 have hwm:(w.map (V.int .i64)).length=w.length:=by simp
 dsimp only at hp
 unfold Tn at hp
 clear hmo htw g2 g3
 obtain ⟨xk,xt,xp⟩:=x
 rw [DF] at hmt hmk
 dsimp only at hp
 rw [DF] at hp
 unfold Zd at hmay
 unfold BB at hmk hrn
 unfold Hj at hb hct
 unfold AL at*
 generalize (In h).map Cy=T at*
 have e7:(7:Int)=(T.length:Int):=by rw [htl];rfl
 rw [e7] at hkd
 generalize GL m.N 0 w=a0 at*
 obtain ⟨c,hc⟩:∃c:Bool,(decide (0≤a0)&&m.F.getD a0.toNat false)=c:=⟨_,rfl⟩
 rw [hc] at hb hct
 obtain rfl:b=c:=by
  cases b<;>cases c<;>simp at hb<;>rfl
 clear hb
 by_cases ha:0≤a0
 ·obtain ⟨bF,hbF⟩:∃bF,m.F[a0.toNat]?=some bF:=⟨_,List.getElem?_eq_getElem (by omega)⟩
  rw [List.getD_eq_getElem?_getD,hbF,Option.getD_some,decide_eq_true ha,Bool.true_and] at hc
  subst hc
  have gF:(m.F.map V.bool)[Int.toNat a0]?=some (.bool bF):=by rw [List.getElem?_map,hbF];rfl
  cases bF with
  | true=>
    refine GN Tryz.func4 fun C hC hW hG hE=>?_
    conv=>whnf
    have hct':=hct.c hC hW CD hG
    have hmk':=hmk.c hC hW CD hG
    repeat' (first|refine A2 ?_|refine A1 ?_|refine AO ?_|refine Ad ?_|refine AN hty hC Kk ?_|refine AN hpk hC GM ?_|refine AN hkd hC Kl ?_|(refine JT hct' hC Ir ?_ ?_ ?_;kernel_rfl;kernel_rfl;intro r hr;obtain ⟨d,f,rfl,hdf⟩:=hr)|refine AN hp hC H9 ?_|refine EL hmk' hC Gk rfl ?_|refine ⟨CR w,?_⟩|refine AY (A4 0 34 [7,8,9,31,32] rfl (Bs w) rfl rfl rfl (AH ?_))|refine AY (A4 2 56 [7,8,9,10,11,12,13,14,15,16,54] rfl (Bs w) rfl rfl rfl (AH ?_))|refine AY (A4 2 63 [7,8,9,10,11,12,13,14,15,16,17,18,61] rfl (Bs w) rfl rfl rfl (AH ?_))|refine AN hrn hC Is ?_|refine AN hmt hC Iq ?_|refine AN hmay hC Gl ?_|(refine C1 hE [⟨1,[(0,none),(1,none),(2,some 0)],some 3,[],[[]],[]⟩,⟨0,[(4,none),(5,none),(6,none),(7,none),(8,none)],none,[],[[]],[]⟩] ?_ ?_;decide +kernel)|refine GV (fun h=>?_) (fun h=>?_)|refine AC hE ?_|intro hlen|refine By ?_)<;>conv=>whnf
    all_goals first|exact ⟨rfl,rfl⟩|(exfalso;have q:=hdf.2 rfl;omega)
  | false=>
    refine GN Tryz.func4 fun C hC hW hG hE=>?_
    conv=>whnf
    have hct':=hct.c hC hW CD hG
    have hmk':=hmk.c hC hW CD hG
    repeat' (first|refine A2 ?_|refine A1 ?_|refine AO ?_|refine Ad ?_|refine AN hty hC Kk ?_|refine AN hpk hC GM ?_|refine AN hkd hC Kl ?_|(refine JT hct' hC Ir ?_ ?_ ?_;kernel_rfl;kernel_rfl;intro r hr;obtain ⟨d,f,rfl,hdf⟩:=hr)|refine AN hp hC H9 ?_|refine EL hmk' hC Gk rfl ?_|refine ⟨CR w,?_⟩|refine AY (A4 0 34 [7,8,9,31,32] rfl (Bs w) rfl rfl rfl (AH ?_))|refine AY (A4 2 56 [7,8,9,10,11,12,13,14,15,16,54] rfl (Bs w) rfl rfl rfl (AH ?_))|refine AY (A4 2 63 [7,8,9,10,11,12,13,14,15,16,17,18,61] rfl (Bs w) rfl rfl rfl (AH ?_))|refine AN hrn hC Is ?_|refine AN hmt hC Iq ?_|refine AN hmay hC Gl ?_|(refine C1 hE [⟨1,[(0,none),(1,none),(2,some 0)],some 3,[],[[]],[]⟩,⟨0,[(4,none),(5,none),(6,none),(7,none),(8,none)],none,[],[[]],[]⟩] ?_ ?_;decide +kernel)|refine GV (fun h=>?_) (fun h=>?_)|refine AC hE ?_|intro hlen|refine By ?_)<;>conv=>whnf
    all_goals first|exact ⟨rfl,rfl⟩|(exfalso;have q:¬(d=0∧f=0):=(fun q=>by cases hdf.1 q);omega)
 ·rw [decide_eq_false ha,Bool.false_and] at hc
  subst hc
  refine GN Tryz.func4 fun C hC hW hG hE=>?_
  conv=>whnf
  have hct':=hct.c hC hW CD hG
  have hmk':=hmk.c hC hW CD hG
  repeat' (first|refine A2 ?_|refine A1 ?_|refine AO ?_|refine Ad ?_|refine AN hty hC Kk ?_|refine AN hpk hC GM ?_|refine AN hkd hC Kl ?_|(refine JT hct' hC Ir ?_ ?_ ?_;kernel_rfl;kernel_rfl;intro r hr;obtain ⟨d,f,rfl,hdf⟩:=hr)|refine AN hp hC H9 ?_|refine EL hmk' hC Gk rfl ?_|refine ⟨CR w,?_⟩|refine AY (A4 0 34 [7,8,9,31,32] rfl (Bs w) rfl rfl rfl (AH ?_))|refine AY (A4 2 56 [7,8,9,10,11,12,13,14,15,16,54] rfl (Bs w) rfl rfl rfl (AH ?_))|refine AY (A4 2 63 [7,8,9,10,11,12,13,14,15,16,17,18,61] rfl (Bs w) rfl rfl rfl (AH ?_))|refine AN hrn hC Is ?_|refine AN hmt hC Iq ?_|refine AN hmay hC Gl ?_|(refine C1 hE [⟨1,[(0,none),(1,none),(2,some 0)],some 3,[],[[]],[]⟩,⟨0,[(4,none),(5,none),(6,none),(7,none),(8,none)],none,[],[[]],[]⟩] ?_ ?_;decide +kernel)|refine GV (fun h=>?_) (fun h=>?_)|refine AC hE ?_|intro hlen|refine By ?_)<;>conv=>whnf
  all_goals first|exact ⟨rfl,rfl⟩|(exfalso;have q:¬(d=0∧f=0):=(fun q=>by cases hdf.1 q);omega)
end Go.Proofs.YtkaiffheakalmaaGreatDoor
