/- Joined. No conditions. -/
import Derived.Test.YtkaiffheakalmaaGreatDoorJ9av
import Derived.Test.YtkaiffheakalmaaGreatDoorJ9az
set_option linter.unusedSimpArgs false
set_option linter.unusedVariables false
set_option maxRecDepth 100000
namespace Go.Proofs.YtkaiffheakalmaaGreatDoor
open Go.RowKit
theorem XV (l:List Int) (q:Int):Fn1 Tryz.prog 103 [.lst (l.map (V.int .i64)),.int .i64 q] (fun r=>r= .int .i64 (GH (fun x=>decide (q=x)) l)):=by
 refine Ax Tryz.func103 fun C hC hE=>?_
 conv=>whnf
 intro hl
 conv=>whnf
 refine Ab (fun k:Nat=>⟨19,[(0,.lst (l.map (V.int .i64))),(1,.int .i64 q),(7,.int .i64 (l.map (V.int .i64)).length),(8,.int .i64 k)],[]⟩) (fun k=>k≤l.length∧∀j < k,∀x,l[j]?=some x→decide (q=x)=false) (fun k=>l.length - k) 0 hE ?_ ?_ ?_
 ·exact AP [0,1,7,8] rfl
 ·exact ⟨Nat.zero_le _,fun j hj=>by omega⟩
 intro k hkj
 obtain ⟨hk,hj⟩:=hkj
 have hlm:(l.map (V.int .i64)).length=l.length:=by simp
 by_cases hlt:k < l.length
 ·obtain ⟨x,hx⟩:∃x,l[k]?=some x:=⟨_,List.getElem?_eq_getElem hlt⟩
  have gx:(l.map (V.int .i64))[k]?=some (.int .i64 x):=by rw [List.getElem?_map,hx];rfl
  conv=>whnf
  repeat' (first|refine A2 ?_|refine AO ?_|refine AV ?_|refine Ad ?_|refine GV (fun h=>?_) (fun h=>?_)|refine AC hE ?_)<;>conv=>whnf
  ·exact ⟨rfl,by rw [D7 hx (decide_eq_true (by assumption)) hj]⟩
  ·refine AD [0,1,7,8] (k+1) ⟨hlt,?_⟩ (by omega) rfl
   intro j hjk y hy
   by_cases e:j=k
   ·subst e;rw [hx] at hy;cases hy;exact decide_eq_false (by assumption)
   ·exact hj j (by omega) y hy
 ·conv=>whnf
  repeat' (first|refine A1 ?_|refine AC hE ?_)<;>conv=>whnf
  exact ⟨rfl,by rw [DW (fun x hx=>by obtain ⟨j,hj'⟩:=List.mem_iff_getElem?.1 hx;exact hj j (by have:=(List.getElem?_eq_some_iff.1 hj').1;omega) x hj')]⟩
theorem E5 (l:List Int) (q:Int):Fn1 Tryz.prog 92 [.lst (l.map (V.int .i64)),.int .i64 q] (fun r=>r= .bool (decide (q∈l))):=by
 have ha:=D8 (fun x=>decide (q=x)) l
 have hb:decide (q∈l)=l.any (fun x=>decide (q=x)):=by rw [Bool.eq_iff_iff];simp
 refine Ax Tryz.func92 fun C hC hE=>?_
 conv=>whnf
 repeat' (first|refine AN (XV _ _) hC Sk ?_|refine GV (fun h=>?_) (fun h=>?_)|refine AC hE ?_)<;>conv=>whnf
 all_goals exact ⟨rfl,by rw [hb,←ha];congr 1;first|exact (decide_eq_true (by assumption)).symm|exact (decide_eq_false (by assumption)).symm⟩
def CU (F:List (List Int)):List V:=(List.range F.length).map fun j=>.sl (3+j) 0 (AE F j).length
def Sn (S:Ps):V:=.agg [.sl 1 0 S.T.length,.sl 2 0 S.F.length,.nils,.nils,.bool false]
def fo (F:List (List Int)) (j:Nat):Ob:=.row 1 ((AE F j).map (V.int .i64))
def Bt (S:Ps):List Ob:=[.row 5 [Sn S],.row 1 (S.T.map (V.int .i64)),.row 1 (CU S.F),fo S.F 0,fo S.F 1,fo S.F 2,fo S.F 3]
theorem QP (F:List (List Int)):(CU F).length=F.length:=by simp [CU]
theorem Ld {F:List (List Int)} {i:Nat} (h:i < F.length):(CU F)[0+Int.toNat (i:Int)]?=some (.sl (3+i) 0 (AE F i).length):=by
 rw [Nat.zero_add,Int.toNat_natCast]
 unfold CU
 rw [List.getElem?_map,List.getElem?_range h]
 rfl
theorem NJ {F:List (List Int)} {i j:Nat} {r:List Int} (h:i < F.length):AE (F.set i r) j=if j=i then r else AE F j:=by
 unfold AE
 rw [List.getD_eq_getElem?_getD,List.getD_eq_getElem?_getD,List.getElem?_set]
 split
 ·rename_i e
  subst e
  simp [h]
 ·rename_i e
  rw [if_neg (fun e'=>e e'.symm)]
theorem dK {F:List (List Int)} {i:Nat} {r:List Int} (h:i < F.length):(AF (3+i) (CU F)).set i (.sl (3+i) 0 r.length)=CU (F.set i r):=by
 refine List.ext_getElem? fun j=>?_
 have hkl:(AF (3+i) (CU F)).length=F.length:=by rw [AQ,QP]
 by_cases hj:j < F.length
 ·have e2:(CU (F.set i r))[j]?=some (.sl (3+j) 0 (AE (F.set i r) j).length):=by
   unfold CU
   rw [List.getElem?_map,List.getElem?_range (by simpa using hj)]
   rfl
  rw [e2,NJ h]
  by_cases e:i=j
  ·subst e
   rw [List.getElem?_set_self (by omega),if_pos rfl]
  ·rw [List.getElem?_set_ne e,if_neg (fun e'=>e e'.symm)]
   have e3:AF (3+i) (CU F)=(List.range F.length).map fun j=>(V.sl (3+j) 0 (AE F j).length).kill (3+i):=by
    unfold CU
    rw [F3]
   rw [e3,List.getElem?_map,List.getElem?_range hj]
   simp only [Option.map_some,V.kill]
   rw [if_neg (by omega)]
 ·rw [List.getElem?_eq_none (by rw [List.length_set];omega),List.getElem?_eq_none (by rw [QP,List.length_set];omega)]
theorem Gh {F:List (List Int)} {i:Nat} (h:i < F.length):(AF (3+i) (CU F))[0+Int.toNat (i:Int)]?=some .any:=by
 rw [Nat.zero_add,Int.toNat_natCast]
 unfold CU
 rw [F3,List.getElem?_map,List.getElem?_range h]
 simp [V.kill]
theorem Cm {F:List (List Int)} {n:Nat} (h:F.length+3≤n):AF n (CU F)=CU F:=by
 unfold CU
 rw [F3]
 refine List.map_congr_left fun j hj=>?_
 have:=List.mem_range.1 hj
 simp only [V.kill]
 rw [if_neg (by omega)]
theorem Le {F:List (List Int)} {i:Nat} (h:i < F.length) (h4:F.length≤4) (q:Int):AF 8 ((AF (3+i) (CU F)).set i (.sl (3+i) 0 ((AE F i).length+1)))=CU (F.set i (AE F i++[q])):=by
 have:=dK (r:=AE F i++[q]) h
 rw [List.length_append,List.length_singleton] at this
 rw [this,Cm (by rw [List.length_set];omega)]
theorem Jj {F:List (List Int)} {i:Nat} (h:i < F.length) (q:Int) (a b:Nat):AF a (AF b (List.take (AE F i).length (List.drop 0 ((AE F i).map (V.int .i64)))++[V.int .i64 q]))=(AE (F.set i (AE F i++[q])) i).map (V.int .i64):=by
 rw [NJ h,if_pos rfl,List.drop_zero,List.take_of_length_le (by simp),show (AE F i).map (V.int .i64)++[V.int .i64 q]=(AE F i++[q]).map (V.int .i64) by simp,AA _ (AJ _),AA _ (AJ _)]
theorem Cn {F:List (List Int)} {i j:Nat} (h:i < F.length) (hj:j≠i) (r:List Int) (a b:Nat):AF a (AF b ((AE F j).map (V.int .i64)))=(AE (F.set i r) j).map (V.int .i64):=by
 rw [NJ h,if_neg hj,AA _ (AJ _),AA _ (AJ _)]
theorem H2 (T:List Int) (a b:Nat):AF a (AF b (T.map (V.int .i64)))=T.map (V.int .i64):=by rw [AA _ (AJ _),AA _ (AJ _)]
set_option maxHeartbeats 16000000 in
theorem fU (S:Ps) (fr to:List Int) (hF:S.F.length≤4) (hfr:∀i∈fr,0≤i∧i < S.F.length) (hto:∀k∈to,0≤k∧k < S.F.length) (hB:BdF S.F.length S.F):
 HFn Tryz.prog 76 [.ptr 0 0 0,.lst (fr.map (V.int .i64)),.lst (to.map (V.int .i64))] (Bt S) [0] (fun r o=>r= .tup []∧o=Bt ⟨S.T,Au fr to S.F⟩):=by
 have hfm:(fr.map (V.int .i64)).length=fr.length:=by simp
 have htm:(to.map (V.int .i64)).length=to.length:=by simp
 refine IJ Tryz.func76 fun C vs hC hE=>?_
 unfold Bt Sn fo
 conv=>whnf
 repeat' intro hlen<;>conv=>whnf
 refine Ab (fun j:Nat=>⟨50,[(0,.ptr 0 0 0),(2,.lst (to.map (V.int .i64))),(10,.lst (fr.map (V.int .i64))),(11,.int .i64 (fr.map (V.int .i64)).length),(12,.int .i64 j)],
  [some (.row 5 [.agg [.sl 1 0 S.T.length,.sl 2 0 S.F.length,.nils,.nils,.bool false]]),some (.row 1 (S.T.map (V.int .i64))),some (.row 1 (CU (Au (fr.take j) to S.F))),some (.row 1 ((AE (Au (fr.take j) to S.F) 0).map (V.int .i64))),some (.row 1 ((AE (Au (fr.take j) to S.F) 1).map (V.int .i64))),some (.row 1 ((AE (Au (fr.take j) to S.F) 2).map (V.int .i64))),some (.row 1 ((AE (Au (fr.take j) to S.F) 3).map (V.int .i64))),some (.hid vs [.ptr 0 0 0,.lst (fr.map (V.int .i64)),.lst (to.map (V.int .i64))])]⟩)
  (fun j=>j≤fr.length) (fun j=>fr.length - j) 0 hE ?_ (Nat.zero_le _) ?_
 ·exact AP [0,2,10,11,12] rfl
 intro j hj
 by_cases hlt:j < fr.length
 ·obtain ⟨i,hi⟩:∃i,fr[j]?=some i:=⟨_,List.getElem?_eq_getElem hlt⟩
  have gi:(fr.map (V.int .i64))[j]?=some (.int .i64 i):=by rw [List.getElem?_map,hi];rfl
  have hir:=hfr i (List.mem_of_getElem? hi)
  have hFl:=CS to (fr.take j) S.F
  have hFb:=NL (n:=S.F.length) (fr:=fr.take j) hto hB
  have hend:Au (fr.take (j+1)) to S.F=AZ i to (Au (fr.take j) to S.F):=by
   rw [List.take_add_one,hi]
   exact T4 _ _ _ _
  generalize Au (fr.take j) to S.F=G at*
  have hi4:i=0∨i=1∨i=2∨i=3:=by omega
  rcases hi4 with rfl|rfl|rfl|rfl
  ·conv=>whnf
   repeat' (first|refine A2 ?_|refine AO ?_|refine Ad ?_|intro hlen)<;>conv=>whnf
   refine Ab (fun k:Nat=>⟨50,[(0,.ptr 0 0 0),(2,.lst (to.map (V.int .i64))),(7,.int .i64 0),(10,.lst (fr.map (V.int .i64))),(11,.int .i64 (fr.map (V.int .i64)).length),(12,.int .i64 j),(16,.lst (to.map (V.int .i64))),(17,.int .i64 (to.map (V.int .i64)).length),(18,.int .i64 k)],
    [some (.row 5 [.agg [.sl 1 0 S.T.length,.sl 2 0 S.F.length,.nils,.nils,.bool false]]),some (.row 1 (S.T.map (V.int .i64))),some (.row 1 (CU (AZ 0 (to.take k) G))),some (.row 1 ((AE (AZ 0 (to.take k) G) 0).map (V.int .i64))),some (.row 1 ((AE (AZ 0 (to.take k) G) 1).map (V.int .i64))),some (.row 1 ((AE (AZ 0 (to.take k) G) 2).map (V.int .i64))),some (.row 1 ((AE (AZ 0 (to.take k) G) 3).map (V.int .i64))),some (.hid vs [.ptr 0 0 0,.lst (fr.map (V.int .i64)),.lst (to.map (V.int .i64))])]⟩)
    (fun k=>k≤to.length) (fun k=>to.length - k) 0 hE ?_ (Nat.zero_le _) ?_
   ·exact AP [0,2,7,10,11,12,16,17,18] rfl
   intro k hk
   by_cases hlk:k < to.length
   ·obtain ⟨q,hq⟩:∃q,to[k]?=some q:=⟨_,List.getElem?_eq_getElem hlk⟩
    have gq:(to.map (V.int .i64))[k]?=some (.int .i64 q):=by rw [List.getElem?_map,hq];rfl
    have hGl:=FA 0 (to.take k) G
    have hGb:=GI (i:=0) (to:=to.take k) hFb (fun x hx=>hto x (List.mem_of_mem_take hx))
    have hne:AZ 0 (to.take (k+1)) G=Df 0 q (AZ 0 (to.take k) G):=by
     rw [List.take_add_one,hq]
     exact Gi _ _ _ _
    generalize AZ 0 (to.take k) G=H at*
    have hrl:(AE H 0).length≤S.F.length:=by
     unfold AE
     rw [List.getD_eq_getElem?_getD]
     cases hg:H[0]? with
     | none=>exact Nat.zero_le _
     | some r0=>exact H6 (hGb r0 (List.mem_of_getElem? hg))
    have hrm:((AE H 0).map (V.int .i64)).length=(AE H 0).length:=by simp
    have gs:=Ld (F:=H) (i:=0) (by omega)
    have gs2:=Gh (F:=H) (i:=0) (by omega)
    have hct:=E5 (AE H 0) q
    have hnr:=AJ (AE H 0)
    have hfz:[(V.sl 3 0 (AE H 0).length).frz 3 ((AE H 0).map (V.int .i64)),V.int .i64 q]=[.lst ((AE H 0).map (V.int .i64)),V.int .i64 q]:=by rw [B0 3 _ (by simp)]
    by_cases hm:q∈AE H 0
    ·rw [decide_eq_true hm] at hct
     have h1:Df 0 q H=H:=if_pos hm
     rw [h1] at hne
     have hfin:(⟨50,[(0,.ptr 0 0 0),(2,.lst (to.map (V.int .i64))),(7,.int .i64 0),(10,.lst (fr.map (V.int .i64))),(11,.int .i64 (fr.map (V.int .i64)).length),(12,.int .i64 j),(16,.lst (to.map (V.int .i64))),(17,.int .i64 (to.map (V.int .i64)).length),(18,.int .i64 ((k:Int)+1))],[some (.row 5 [.agg [.sl 1 0 S.T.length,.sl 2 0 S.F.length,.nils,.nils,.bool false]]),some (.row 1 (S.T.map (V.int .i64))),some (.row 1 (CU H)),some (.row 1 ((AE H 0).map (V.int .i64))),some (.row 1 ((AE H 1).map (V.int .i64))),some (.row 1 ((AE H 2).map (V.int .i64))),some (.row 1 ((AE H 3).map (V.int .i64))),some (.hid vs [.ptr 0 0 0,.lst (fr.map (V.int .i64)),.lst (to.map (V.int .i64))])]⟩:ES)=(⟨50,[(0,.ptr 0 0 0),(2,.lst (to.map (V.int .i64))),(7,.int .i64 0),(10,.lst (fr.map (V.int .i64))),(11,.int .i64 (fr.map (V.int .i64)).length),(12,.int .i64 j),(16,.lst (to.map (V.int .i64))),(17,.int .i64 (to.map (V.int .i64)).length),(18,.int .i64 ((k+1:Nat):Int))],[some (.row 5 [.agg [.sl 1 0 S.T.length,.sl 2 0 S.F.length,.nils,.nils,.bool false]]),some (.row 1 (S.T.map (V.int .i64))),some (.row 1 (CU (AZ 0 (to.take (k+1)) G))),some (.row 1 ((AE (AZ 0 (to.take (k+1)) G) 0).map (V.int .i64))),some (.row 1 ((AE (AZ 0 (to.take (k+1)) G) 1).map (V.int .i64))),some (.row 1 ((AE (AZ 0 (to.take (k+1)) G) 2).map (V.int .i64))),some (.row 1 ((AE (AZ 0 (to.take (k+1)) G) 3).map (V.int .i64))),some (.hid vs [.ptr 0 0 0,.lst (fr.map (V.int .i64)),.lst (to.map (V.int .i64))])]⟩:ES):=by
      rw [hne]
      rfl
     generalize (AE H 0).length=m at*
     generalize (AE H 0).map (V.int .i64)=R0 at*
     generalize (AE H 1).map (V.int .i64)=R1 at*
     generalize (AE H 2).map (V.int .i64)=R2 at*
     generalize (AE H 3).map (V.int .i64)=R3 at*
     generalize CU H=L at*
     conv=>whnf
     repeat' (first|refine A2 ?_|refine AO ?_|refine AV ?_|refine Ad ?_|refine Cr 3 hct hC C4 rfl hnr rfl hfz rfl rfl ?_)<;>conv=>whnf
     exact AD [0,2,7,10,11,12,16,17,18] (k+1) hlk (by show to.length - (k+1) < to.length - k;omega) hfin
    ·rw [decide_eq_false hm] at hct
     have h1:Df 0 q H=H.set 0 (AE H 0++[q]):=if_neg hm
     rw [h1] at hne
     have hfin:(⟨50,[(0,.ptr 0 0 0),(2,.lst (to.map (V.int .i64))),(7,.int .i64 0),(10,.lst (fr.map (V.int .i64))),(11,.int .i64 (fr.map (V.int .i64)).length),(12,.int .i64 j),(16,.lst (to.map (V.int .i64))),(17,.int .i64 (to.map (V.int .i64)).length),(18,.int .i64 ((k:Int)+1))],[some (.row 5 [.agg [.sl 1 0 S.T.length,.sl 2 0 S.F.length,.nils,.nils,.bool false]]),some (.row 1 (AF 8 (AF 3 (S.T.map (V.int .i64))))),some (.row 1 (AF 8 ((AF 3 (CU H)).set 0 (.sl 3 0 ((AE H 0).length+1))))),some (.row 1 (AF 8 (AF 3 (List.take (AE H 0).length (List.drop 0 ((AE H 0).map (V.int .i64)))++[V.int .i64 q])))),some (.row 1 (AF 8 (AF 3 ((AE H 1).map (V.int .i64))))),some (.row 1 (AF 8 (AF 3 ((AE H 2).map (V.int .i64))))),some (.row 1 (AF 8 (AF 3 ((AE H 3).map (V.int .i64))))),some (.hid vs [.ptr 0 0 0,.lst (fr.map (V.int .i64)),.lst (to.map (V.int .i64))])]⟩:ES)=(⟨50,[(0,.ptr 0 0 0),(2,.lst (to.map (V.int .i64))),(7,.int .i64 0),(10,.lst (fr.map (V.int .i64))),(11,.int .i64 (fr.map (V.int .i64)).length),(12,.int .i64 j),(16,.lst (to.map (V.int .i64))),(17,.int .i64 (to.map (V.int .i64)).length),(18,.int .i64 ((k+1:Nat):Int))],[some (.row 5 [.agg [.sl 1 0 S.T.length,.sl 2 0 S.F.length,.nils,.nils,.bool false]]),some (.row 1 (S.T.map (V.int .i64))),some (.row 1 (CU (AZ 0 (to.take (k+1)) G))),some (.row 1 ((AE (AZ 0 (to.take (k+1)) G) 0).map (V.int .i64))),some (.row 1 ((AE (AZ 0 (to.take (k+1)) G) 1).map (V.int .i64))),some (.row 1 ((AE (AZ 0 (to.take (k+1)) G) 2).map (V.int .i64))),some (.row 1 ((AE (AZ 0 (to.take (k+1)) G) 3).map (V.int .i64))),some (.hid vs [.ptr 0 0 0,.lst (fr.map (V.int .i64)),.lst (to.map (V.int .i64))])]⟩:ES):=by
      have e0:=Le (F:=H) (i:=0) (by omega) (by omega) q
      rw [show 3+0=3 from rfl] at e0
      rw [hne,e0,Jj (by omega) q,Cn (j:=1) (i:=0) (by omega) (by decide) (AE H 0++[q]),Cn (j:=2) (i:=0) (by omega) (by decide) (AE H 0++[q]),Cn (j:=3) (i:=0) (by omega) (by decide) (AE H 0++[q]),H2]
      rfl
     have gs2':(AF 3 (CU H))[0+Int.toNat 0]?=some .any:=gs2
     generalize (AE H 0).length=m at*
     generalize (AE H 0).map (V.int .i64)=R0 at*
     generalize (AE H 1).map (V.int .i64)=R1 at*
     generalize (AE H 2).map (V.int .i64)=R2 at*
     generalize (AE H 3).map (V.int .i64)=R3 at*
     generalize CU H=L at*
     generalize S.T.map (V.int .i64)=T0 at*
     conv=>whnf
     repeat' (first|(first|refine A2 ?_|refine AO ?_|refine AV ?_|refine Ad ?_|(refine EA hE ⟨1,[(0,none),(1,none),(2,none),(3,none),(4,none),(5,none),(6,none),(7,none),(8,none),(9,none),(10,none),(11,none),(12,none),(13,some 0)],some 14,[0,1,2,3,4],[[],[3],[2,3],[1,2,3],[0,1,2,3],[4],[3,4],[2,3,4],[1,2,3,4],[0,1,2,3,4]],[]⟩ [⟨0,[(15,none)],some 16,[],[[]],[]⟩] [[]] [0,1,2,3,4] 14 ?_ ?_;decide +kernel))<;>conv=>whnf|refine EqL.mk rfl rfl|(first|refine Cr 3 hct hC C4 rfl hnr rfl hfz rfl rfl ?_|refine EN (Nat.le_refl 1) ?_|(refine EN ⟨?_,?_,?_⟩ ?_;omega;(show _+1≤9223372036854775807;omega);(show (_+1)*8≤140737488355328;omega))|refine JM ?_ ?_)<;>conv=>whnf)
     all_goals exact AM [0,2,7,10,11,12,16,17,18] [8] (k+1) hlk (by show to.length - (k+1) < to.length - k;omega) hfin
   ·obtain rfl:k=to.length:=by omega
    rw [List.take_length]
    conv=>whnf
    repeat' (first|refine A1 ?_|refine AV ?_)<;>conv=>whnf
    refine AD [0,2,10,11,12] (j+1) hlt (by show fr.length - (j+1) < fr.length - j;omega) ?_
    conv=>whnf
    rw [hend]
    rfl
  ·conv=>whnf
   repeat' (first|refine A2 ?_|refine AO ?_|refine Ad ?_|intro hlen)<;>conv=>whnf
   refine Ab (fun k:Nat=>⟨50,[(0,.ptr 0 0 0),(2,.lst (to.map (V.int .i64))),(7,.int .i64 1),(10,.lst (fr.map (V.int .i64))),(11,.int .i64 (fr.map (V.int .i64)).length),(12,.int .i64 j),(16,.lst (to.map (V.int .i64))),(17,.int .i64 (to.map (V.int .i64)).length),(18,.int .i64 k)],
    [some (.row 5 [.agg [.sl 1 0 S.T.length,.sl 2 0 S.F.length,.nils,.nils,.bool false]]),some (.row 1 (S.T.map (V.int .i64))),some (.row 1 (CU (AZ 1 (to.take k) G))),some (.row 1 ((AE (AZ 1 (to.take k) G) 0).map (V.int .i64))),some (.row 1 ((AE (AZ 1 (to.take k) G) 1).map (V.int .i64))),some (.row 1 ((AE (AZ 1 (to.take k) G) 2).map (V.int .i64))),some (.row 1 ((AE (AZ 1 (to.take k) G) 3).map (V.int .i64))),some (.hid vs [.ptr 0 0 0,.lst (fr.map (V.int .i64)),.lst (to.map (V.int .i64))])]⟩)
    (fun k=>k≤to.length) (fun k=>to.length - k) 0 hE ?_ (Nat.zero_le _) ?_
   ·exact AP [0,2,7,10,11,12,16,17,18] rfl
   intro k hk
   by_cases hlk:k < to.length
   ·obtain ⟨q,hq⟩:∃q,to[k]?=some q:=⟨_,List.getElem?_eq_getElem hlk⟩
    have gq:(to.map (V.int .i64))[k]?=some (.int .i64 q):=by rw [List.getElem?_map,hq];rfl
    have hGl:=FA 1 (to.take k) G
    have hGb:=GI (i:=1) (to:=to.take k) hFb (fun x hx=>hto x (List.mem_of_mem_take hx))
    have hne:AZ 1 (to.take (k+1)) G=Df 1 q (AZ 1 (to.take k) G):=by
     rw [List.take_add_one,hq]
     exact Gi _ _ _ _
    generalize AZ 1 (to.take k) G=H at*
    have hrl:(AE H 1).length≤S.F.length:=by
     unfold AE
     rw [List.getD_eq_getElem?_getD]
     cases hg:H[1]? with
     | none=>exact Nat.zero_le _
     | some r0=>exact H6 (hGb r0 (List.mem_of_getElem? hg))
    have hrm:((AE H 1).map (V.int .i64)).length=(AE H 1).length:=by simp
    have gs:=Ld (F:=H) (i:=1) (by omega)
    have gs2:=Gh (F:=H) (i:=1) (by omega)
    have hct:=E5 (AE H 1) q
    have hnr:=AJ (AE H 1)
    have hfz:[(V.sl 4 0 (AE H 1).length).frz 4 ((AE H 1).map (V.int .i64)),V.int .i64 q]=[.lst ((AE H 1).map (V.int .i64)),V.int .i64 q]:=by rw [B0 4 _ (by simp)]
    by_cases hm:q∈AE H 1
    ·rw [decide_eq_true hm] at hct
     have h1:Df 1 q H=H:=if_pos hm
     rw [h1] at hne
     have hfin:(⟨50,[(0,.ptr 0 0 0),(2,.lst (to.map (V.int .i64))),(7,.int .i64 1),(10,.lst (fr.map (V.int .i64))),(11,.int .i64 (fr.map (V.int .i64)).length),(12,.int .i64 j),(16,.lst (to.map (V.int .i64))),(17,.int .i64 (to.map (V.int .i64)).length),(18,.int .i64 ((k:Int)+1))],[some (.row 5 [.agg [.sl 1 0 S.T.length,.sl 2 0 S.F.length,.nils,.nils,.bool false]]),some (.row 1 (S.T.map (V.int .i64))),some (.row 1 (CU H)),some (.row 1 ((AE H 0).map (V.int .i64))),some (.row 1 ((AE H 1).map (V.int .i64))),some (.row 1 ((AE H 2).map (V.int .i64))),some (.row 1 ((AE H 3).map (V.int .i64))),some (.hid vs [.ptr 0 0 0,.lst (fr.map (V.int .i64)),.lst (to.map (V.int .i64))])]⟩:ES)=(⟨50,[(0,.ptr 0 0 0),(2,.lst (to.map (V.int .i64))),(7,.int .i64 1),(10,.lst (fr.map (V.int .i64))),(11,.int .i64 (fr.map (V.int .i64)).length),(12,.int .i64 j),(16,.lst (to.map (V.int .i64))),(17,.int .i64 (to.map (V.int .i64)).length),(18,.int .i64 ((k+1:Nat):Int))],[some (.row 5 [.agg [.sl 1 0 S.T.length,.sl 2 0 S.F.length,.nils,.nils,.bool false]]),some (.row 1 (S.T.map (V.int .i64))),some (.row 1 (CU (AZ 1 (to.take (k+1)) G))),some (.row 1 ((AE (AZ 1 (to.take (k+1)) G) 0).map (V.int .i64))),some (.row 1 ((AE (AZ 1 (to.take (k+1)) G) 1).map (V.int .i64))),some (.row 1 ((AE (AZ 1 (to.take (k+1)) G) 2).map (V.int .i64))),some (.row 1 ((AE (AZ 1 (to.take (k+1)) G) 3).map (V.int .i64))),some (.hid vs [.ptr 0 0 0,.lst (fr.map (V.int .i64)),.lst (to.map (V.int .i64))])]⟩:ES):=by
      rw [hne]
      rfl
     generalize (AE H 1).length=m at*
     generalize (AE H 0).map (V.int .i64)=R0 at*
     generalize (AE H 1).map (V.int .i64)=R1 at*
     generalize (AE H 2).map (V.int .i64)=R2 at*
     generalize (AE H 3).map (V.int .i64)=R3 at*
     generalize CU H=L at*
     conv=>whnf
     repeat' (first|refine A2 ?_|refine AO ?_|refine AV ?_|refine Ad ?_|refine Cr 4 hct hC C4 rfl hnr rfl hfz rfl rfl ?_)<;>conv=>whnf
     exact AD [0,2,7,10,11,12,16,17,18] (k+1) hlk (by show to.length - (k+1) < to.length - k;omega) hfin
    ·rw [decide_eq_false hm] at hct
     have h1:Df 1 q H=H.set 1 (AE H 1++[q]):=if_neg hm
     rw [h1] at hne
     have hfin:(⟨50,[(0,.ptr 0 0 0),(2,.lst (to.map (V.int .i64))),(7,.int .i64 1),(10,.lst (fr.map (V.int .i64))),(11,.int .i64 (fr.map (V.int .i64)).length),(12,.int .i64 j),(16,.lst (to.map (V.int .i64))),(17,.int .i64 (to.map (V.int .i64)).length),(18,.int .i64 ((k:Int)+1))],[some (.row 5 [.agg [.sl 1 0 S.T.length,.sl 2 0 S.F.length,.nils,.nils,.bool false]]),some (.row 1 (AF 8 (AF 4 (S.T.map (V.int .i64))))),some (.row 1 (AF 8 ((AF 4 (CU H)).set 1 (.sl 4 0 ((AE H 1).length+1))))),some (.row 1 (AF 8 (AF 4 ((AE H 0).map (V.int .i64))))),some (.row 1 (AF 8 (AF 4 (List.take (AE H 1).length (List.drop 0 ((AE H 1).map (V.int .i64)))++[V.int .i64 q])))),some (.row 1 (AF 8 (AF 4 ((AE H 2).map (V.int .i64))))),some (.row 1 (AF 8 (AF 4 ((AE H 3).map (V.int .i64))))),some (.hid vs [.ptr 0 0 0,.lst (fr.map (V.int .i64)),.lst (to.map (V.int .i64))])]⟩:ES)=(⟨50,[(0,.ptr 0 0 0),(2,.lst (to.map (V.int .i64))),(7,.int .i64 1),(10,.lst (fr.map (V.int .i64))),(11,.int .i64 (fr.map (V.int .i64)).length),(12,.int .i64 j),(16,.lst (to.map (V.int .i64))),(17,.int .i64 (to.map (V.int .i64)).length),(18,.int .i64 ((k+1:Nat):Int))],[some (.row 5 [.agg [.sl 1 0 S.T.length,.sl 2 0 S.F.length,.nils,.nils,.bool false]]),some (.row 1 (S.T.map (V.int .i64))),some (.row 1 (CU (AZ 1 (to.take (k+1)) G))),some (.row 1 ((AE (AZ 1 (to.take (k+1)) G) 0).map (V.int .i64))),some (.row 1 ((AE (AZ 1 (to.take (k+1)) G) 1).map (V.int .i64))),some (.row 1 ((AE (AZ 1 (to.take (k+1)) G) 2).map (V.int .i64))),some (.row 1 ((AE (AZ 1 (to.take (k+1)) G) 3).map (V.int .i64))),some (.hid vs [.ptr 0 0 0,.lst (fr.map (V.int .i64)),.lst (to.map (V.int .i64))])]⟩:ES):=by
      have e0:=Le (F:=H) (i:=1) (by omega) (by omega) q
      rw [show 3+1=4 from rfl] at e0
      rw [hne,e0,Jj (by omega) q,Cn (j:=0) (i:=1) (by omega) (by decide) (AE H 1++[q]),Cn (j:=2) (i:=1) (by omega) (by decide) (AE H 1++[q]),Cn (j:=3) (i:=1) (by omega) (by decide) (AE H 1++[q]),H2]
      rfl
     have gs2':(AF 4 (CU H))[0+Int.toNat 1]?=some .any:=gs2
     generalize (AE H 1).length=m at*
     generalize (AE H 0).map (V.int .i64)=R0 at*
     generalize (AE H 1).map (V.int .i64)=R1 at*
     generalize (AE H 2).map (V.int .i64)=R2 at*
     generalize (AE H 3).map (V.int .i64)=R3 at*
     generalize CU H=L at*
     generalize S.T.map (V.int .i64)=T0 at*
     conv=>whnf
     repeat' (first|(first|refine A2 ?_|refine AO ?_|refine AV ?_|refine Ad ?_|(refine EA hE ⟨1,[(0,none),(1,none),(2,none),(3,none),(4,none),(5,none),(6,none),(7,none),(8,none),(9,none),(10,none),(11,none),(12,none),(13,some 0)],some 14,[0,1,2,3,4],[[],[3],[2,3],[1,2,3],[0,1,2,3],[4],[3,4],[2,3,4],[1,2,3,4],[0,1,2,3,4]],[]⟩ [⟨0,[(15,none)],some 16,[],[[]],[]⟩] [[]] [0,1,2,3,4] 14 ?_ ?_;decide +kernel))<;>conv=>whnf|refine EqL.mk rfl rfl|(first|refine Cr 4 hct hC C4 rfl hnr rfl hfz rfl rfl ?_|refine EN (Nat.le_refl 1) ?_|(refine EN ⟨?_,?_,?_⟩ ?_;omega;(show _+1≤9223372036854775807;omega);(show (_+1)*8≤140737488355328;omega))|refine JM ?_ ?_)<;>conv=>whnf)
     all_goals exact AM [0,2,7,10,11,12,16,17,18] [8] (k+1) hlk (by show to.length - (k+1) < to.length - k;omega) hfin
   ·obtain rfl:k=to.length:=by omega
    rw [List.take_length]
    conv=>whnf
    repeat' (first|refine A1 ?_|refine AV ?_)<;>conv=>whnf
    refine AD [0,2,10,11,12] (j+1) hlt (by show fr.length - (j+1) < fr.length - j;omega) ?_
    conv=>whnf
    rw [hend]
    rfl
  ·conv=>whnf
   repeat' (first|refine A2 ?_|refine AO ?_|refine Ad ?_|intro hlen)<;>conv=>whnf
   refine Ab (fun k:Nat=>⟨50,[(0,.ptr 0 0 0),(2,.lst (to.map (V.int .i64))),(7,.int .i64 2),(10,.lst (fr.map (V.int .i64))),(11,.int .i64 (fr.map (V.int .i64)).length),(12,.int .i64 j),(16,.lst (to.map (V.int .i64))),(17,.int .i64 (to.map (V.int .i64)).length),(18,.int .i64 k)],
    [some (.row 5 [.agg [.sl 1 0 S.T.length,.sl 2 0 S.F.length,.nils,.nils,.bool false]]),some (.row 1 (S.T.map (V.int .i64))),some (.row 1 (CU (AZ 2 (to.take k) G))),some (.row 1 ((AE (AZ 2 (to.take k) G) 0).map (V.int .i64))),some (.row 1 ((AE (AZ 2 (to.take k) G) 1).map (V.int .i64))),some (.row 1 ((AE (AZ 2 (to.take k) G) 2).map (V.int .i64))),some (.row 1 ((AE (AZ 2 (to.take k) G) 3).map (V.int .i64))),some (.hid vs [.ptr 0 0 0,.lst (fr.map (V.int .i64)),.lst (to.map (V.int .i64))])]⟩)
    (fun k=>k≤to.length) (fun k=>to.length - k) 0 hE ?_ (Nat.zero_le _) ?_
   ·exact AP [0,2,7,10,11,12,16,17,18] rfl
   intro k hk
   by_cases hlk:k < to.length
   ·obtain ⟨q,hq⟩:∃q,to[k]?=some q:=⟨_,List.getElem?_eq_getElem hlk⟩
    have gq:(to.map (V.int .i64))[k]?=some (.int .i64 q):=by rw [List.getElem?_map,hq];rfl
    have hGl:=FA 2 (to.take k) G
    have hGb:=GI (i:=2) (to:=to.take k) hFb (fun x hx=>hto x (List.mem_of_mem_take hx))
    have hne:AZ 2 (to.take (k+1)) G=Df 2 q (AZ 2 (to.take k) G):=by
     rw [List.take_add_one,hq]
     exact Gi _ _ _ _
    generalize AZ 2 (to.take k) G=H at*
    have hrl:(AE H 2).length≤S.F.length:=by
     unfold AE
     rw [List.getD_eq_getElem?_getD]
     cases hg:H[2]? with
     | none=>exact Nat.zero_le _
     | some r0=>exact H6 (hGb r0 (List.mem_of_getElem? hg))
    have hrm:((AE H 2).map (V.int .i64)).length=(AE H 2).length:=by simp
    have gs:=Ld (F:=H) (i:=2) (by omega)
    have gs2:=Gh (F:=H) (i:=2) (by omega)
    have hct:=E5 (AE H 2) q
    have hnr:=AJ (AE H 2)
    have hfz:[(V.sl 5 0 (AE H 2).length).frz 5 ((AE H 2).map (V.int .i64)),V.int .i64 q]=[.lst ((AE H 2).map (V.int .i64)),V.int .i64 q]:=by rw [B0 5 _ (by simp)]
    by_cases hm:q∈AE H 2
    ·rw [decide_eq_true hm] at hct
     have h1:Df 2 q H=H:=if_pos hm
     rw [h1] at hne
     have hfin:(⟨50,[(0,.ptr 0 0 0),(2,.lst (to.map (V.int .i64))),(7,.int .i64 2),(10,.lst (fr.map (V.int .i64))),(11,.int .i64 (fr.map (V.int .i64)).length),(12,.int .i64 j),(16,.lst (to.map (V.int .i64))),(17,.int .i64 (to.map (V.int .i64)).length),(18,.int .i64 ((k:Int)+1))],[some (.row 5 [.agg [.sl 1 0 S.T.length,.sl 2 0 S.F.length,.nils,.nils,.bool false]]),some (.row 1 (S.T.map (V.int .i64))),some (.row 1 (CU H)),some (.row 1 ((AE H 0).map (V.int .i64))),some (.row 1 ((AE H 1).map (V.int .i64))),some (.row 1 ((AE H 2).map (V.int .i64))),some (.row 1 ((AE H 3).map (V.int .i64))),some (.hid vs [.ptr 0 0 0,.lst (fr.map (V.int .i64)),.lst (to.map (V.int .i64))])]⟩:ES)=(⟨50,[(0,.ptr 0 0 0),(2,.lst (to.map (V.int .i64))),(7,.int .i64 2),(10,.lst (fr.map (V.int .i64))),(11,.int .i64 (fr.map (V.int .i64)).length),(12,.int .i64 j),(16,.lst (to.map (V.int .i64))),(17,.int .i64 (to.map (V.int .i64)).length),(18,.int .i64 ((k+1:Nat):Int))],[some (.row 5 [.agg [.sl 1 0 S.T.length,.sl 2 0 S.F.length,.nils,.nils,.bool false]]),some (.row 1 (S.T.map (V.int .i64))),some (.row 1 (CU (AZ 2 (to.take (k+1)) G))),some (.row 1 ((AE (AZ 2 (to.take (k+1)) G) 0).map (V.int .i64))),some (.row 1 ((AE (AZ 2 (to.take (k+1)) G) 1).map (V.int .i64))),some (.row 1 ((AE (AZ 2 (to.take (k+1)) G) 2).map (V.int .i64))),some (.row 1 ((AE (AZ 2 (to.take (k+1)) G) 3).map (V.int .i64))),some (.hid vs [.ptr 0 0 0,.lst (fr.map (V.int .i64)),.lst (to.map (V.int .i64))])]⟩:ES):=by
      rw [hne]
      rfl
     generalize (AE H 2).length=m at*
     generalize (AE H 0).map (V.int .i64)=R0 at*
     generalize (AE H 1).map (V.int .i64)=R1 at*
     generalize (AE H 2).map (V.int .i64)=R2 at*
     generalize (AE H 3).map (V.int .i64)=R3 at*
     generalize CU H=L at*
     conv=>whnf
     repeat' (first|refine A2 ?_|refine AO ?_|refine AV ?_|refine Ad ?_|refine Cr 5 hct hC C4 rfl hnr rfl hfz rfl rfl ?_)<;>conv=>whnf
     exact AD [0,2,7,10,11,12,16,17,18] (k+1) hlk (by show to.length - (k+1) < to.length - k;omega) hfin
    ·rw [decide_eq_false hm] at hct
     have h1:Df 2 q H=H.set 2 (AE H 2++[q]):=if_neg hm
     rw [h1] at hne
     have hfin:(⟨50,[(0,.ptr 0 0 0),(2,.lst (to.map (V.int .i64))),(7,.int .i64 2),(10,.lst (fr.map (V.int .i64))),(11,.int .i64 (fr.map (V.int .i64)).length),(12,.int .i64 j),(16,.lst (to.map (V.int .i64))),(17,.int .i64 (to.map (V.int .i64)).length),(18,.int .i64 ((k:Int)+1))],[some (.row 5 [.agg [.sl 1 0 S.T.length,.sl 2 0 S.F.length,.nils,.nils,.bool false]]),some (.row 1 (AF 8 (AF 5 (S.T.map (V.int .i64))))),some (.row 1 (AF 8 ((AF 5 (CU H)).set 2 (.sl 5 0 ((AE H 2).length+1))))),some (.row 1 (AF 8 (AF 5 ((AE H 0).map (V.int .i64))))),some (.row 1 (AF 8 (AF 5 ((AE H 1).map (V.int .i64))))),some (.row 1 (AF 8 (AF 5 (List.take (AE H 2).length (List.drop 0 ((AE H 2).map (V.int .i64)))++[V.int .i64 q])))),some (.row 1 (AF 8 (AF 5 ((AE H 3).map (V.int .i64))))),some (.hid vs [.ptr 0 0 0,.lst (fr.map (V.int .i64)),.lst (to.map (V.int .i64))])]⟩:ES)=(⟨50,[(0,.ptr 0 0 0),(2,.lst (to.map (V.int .i64))),(7,.int .i64 2),(10,.lst (fr.map (V.int .i64))),(11,.int .i64 (fr.map (V.int .i64)).length),(12,.int .i64 j),(16,.lst (to.map (V.int .i64))),(17,.int .i64 (to.map (V.int .i64)).length),(18,.int .i64 ((k+1:Nat):Int))],[some (.row 5 [.agg [.sl 1 0 S.T.length,.sl 2 0 S.F.length,.nils,.nils,.bool false]]),some (.row 1 (S.T.map (V.int .i64))),some (.row 1 (CU (AZ 2 (to.take (k+1)) G))),some (.row 1 ((AE (AZ 2 (to.take (k+1)) G) 0).map (V.int .i64))),some (.row 1 ((AE (AZ 2 (to.take (k+1)) G) 1).map (V.int .i64))),some (.row 1 ((AE (AZ 2 (to.take (k+1)) G) 2).map (V.int .i64))),some (.row 1 ((AE (AZ 2 (to.take (k+1)) G) 3).map (V.int .i64))),some (.hid vs [.ptr 0 0 0,.lst (fr.map (V.int .i64)),.lst (to.map (V.int .i64))])]⟩:ES):=by
      have e0:=Le (F:=H) (i:=2) (by omega) (by omega) q
      rw [show 3+2=5 from rfl] at e0
      rw [hne,e0,Jj (by omega) q,Cn (j:=0) (i:=2) (by omega) (by decide) (AE H 2++[q]),Cn (j:=1) (i:=2) (by omega) (by decide) (AE H 2++[q]),Cn (j:=3) (i:=2) (by omega) (by decide) (AE H 2++[q]),H2]
      rfl
     have gs2':(AF 5 (CU H))[0+Int.toNat 2]?=some .any:=gs2
     generalize (AE H 2).length=m at*
     generalize (AE H 0).map (V.int .i64)=R0 at*
     generalize (AE H 1).map (V.int .i64)=R1 at*
     generalize (AE H 2).map (V.int .i64)=R2 at*
     generalize (AE H 3).map (V.int .i64)=R3 at*
     generalize CU H=L at*
     generalize S.T.map (V.int .i64)=T0 at*
     conv=>whnf
     repeat' (first|(first|refine A2 ?_|refine AO ?_|refine AV ?_|refine Ad ?_|(refine EA hE ⟨1,[(0,none),(1,none),(2,none),(3,none),(4,none),(5,none),(6,none),(7,none),(8,none),(9,none),(10,none),(11,none),(12,none),(13,some 0)],some 14,[0,1,2,3,4],[[],[3],[2,3],[1,2,3],[0,1,2,3],[4],[3,4],[2,3,4],[1,2,3,4],[0,1,2,3,4]],[]⟩ [⟨0,[(15,none)],some 16,[],[[]],[]⟩] [[]] [0,1,2,3,4] 14 ?_ ?_;decide +kernel))<;>conv=>whnf|refine EqL.mk rfl rfl|(first|refine Cr 5 hct hC C4 rfl hnr rfl hfz rfl rfl ?_|refine EN (Nat.le_refl 1) ?_|(refine EN ⟨?_,?_,?_⟩ ?_;omega;(show _+1≤9223372036854775807;omega);(show (_+1)*8≤140737488355328;omega))|refine JM ?_ ?_)<;>conv=>whnf)
     all_goals exact AM [0,2,7,10,11,12,16,17,18] [8] (k+1) hlk (by show to.length - (k+1) < to.length - k;omega) hfin
   ·obtain rfl:k=to.length:=by omega
    rw [List.take_length]
    conv=>whnf
    repeat' (first|refine A1 ?_|refine AV ?_)<;>conv=>whnf
    refine AD [0,2,10,11,12] (j+1) hlt (by show fr.length - (j+1) < fr.length - j;omega) ?_
    conv=>whnf
    rw [hend]
    rfl
  ·conv=>whnf
   repeat' (first|refine A2 ?_|refine AO ?_|refine Ad ?_|intro hlen)<;>conv=>whnf
   refine Ab (fun k:Nat=>⟨50,[(0,.ptr 0 0 0),(2,.lst (to.map (V.int .i64))),(7,.int .i64 3),(10,.lst (fr.map (V.int .i64))),(11,.int .i64 (fr.map (V.int .i64)).length),(12,.int .i64 j),(16,.lst (to.map (V.int .i64))),(17,.int .i64 (to.map (V.int .i64)).length),(18,.int .i64 k)],
    [some (.row 5 [.agg [.sl 1 0 S.T.length,.sl 2 0 S.F.length,.nils,.nils,.bool false]]),some (.row 1 (S.T.map (V.int .i64))),some (.row 1 (CU (AZ 3 (to.take k) G))),some (.row 1 ((AE (AZ 3 (to.take k) G) 0).map (V.int .i64))),some (.row 1 ((AE (AZ 3 (to.take k) G) 1).map (V.int .i64))),some (.row 1 ((AE (AZ 3 (to.take k) G) 2).map (V.int .i64))),some (.row 1 ((AE (AZ 3 (to.take k) G) 3).map (V.int .i64))),some (.hid vs [.ptr 0 0 0,.lst (fr.map (V.int .i64)),.lst (to.map (V.int .i64))])]⟩)
    (fun k=>k≤to.length) (fun k=>to.length - k) 0 hE ?_ (Nat.zero_le _) ?_
   ·exact AP [0,2,7,10,11,12,16,17,18] rfl
   intro k hk
   by_cases hlk:k < to.length
   ·obtain ⟨q,hq⟩:∃q,to[k]?=some q:=⟨_,List.getElem?_eq_getElem hlk⟩
    have gq:(to.map (V.int .i64))[k]?=some (.int .i64 q):=by rw [List.getElem?_map,hq];rfl
    have hGl:=FA 3 (to.take k) G
    have hGb:=GI (i:=3) (to:=to.take k) hFb (fun x hx=>hto x (List.mem_of_mem_take hx))
    have hne:AZ 3 (to.take (k+1)) G=Df 3 q (AZ 3 (to.take k) G):=by
     rw [List.take_add_one,hq]
     exact Gi _ _ _ _
    generalize AZ 3 (to.take k) G=H at*
    have hrl:(AE H 3).length≤S.F.length:=by
     unfold AE
     rw [List.getD_eq_getElem?_getD]
     cases hg:H[3]? with
     | none=>exact Nat.zero_le _
     | some r0=>exact H6 (hGb r0 (List.mem_of_getElem? hg))
    have hrm:((AE H 3).map (V.int .i64)).length=(AE H 3).length:=by simp
    have gs:=Ld (F:=H) (i:=3) (by omega)
    have gs2:=Gh (F:=H) (i:=3) (by omega)
    have hct:=E5 (AE H 3) q
    have hnr:=AJ (AE H 3)
    have hfz:[(V.sl 6 0 (AE H 3).length).frz 6 ((AE H 3).map (V.int .i64)),V.int .i64 q]=[.lst ((AE H 3).map (V.int .i64)),V.int .i64 q]:=by rw [B0 6 _ (by simp)]
    by_cases hm:q∈AE H 3
    ·rw [decide_eq_true hm] at hct
     have h1:Df 3 q H=H:=if_pos hm
     rw [h1] at hne
     have hfin:(⟨50,[(0,.ptr 0 0 0),(2,.lst (to.map (V.int .i64))),(7,.int .i64 3),(10,.lst (fr.map (V.int .i64))),(11,.int .i64 (fr.map (V.int .i64)).length),(12,.int .i64 j),(16,.lst (to.map (V.int .i64))),(17,.int .i64 (to.map (V.int .i64)).length),(18,.int .i64 ((k:Int)+1))],[some (.row 5 [.agg [.sl 1 0 S.T.length,.sl 2 0 S.F.length,.nils,.nils,.bool false]]),some (.row 1 (S.T.map (V.int .i64))),some (.row 1 (CU H)),some (.row 1 ((AE H 0).map (V.int .i64))),some (.row 1 ((AE H 1).map (V.int .i64))),some (.row 1 ((AE H 2).map (V.int .i64))),some (.row 1 ((AE H 3).map (V.int .i64))),some (.hid vs [.ptr 0 0 0,.lst (fr.map (V.int .i64)),.lst (to.map (V.int .i64))])]⟩:ES)=(⟨50,[(0,.ptr 0 0 0),(2,.lst (to.map (V.int .i64))),(7,.int .i64 3),(10,.lst (fr.map (V.int .i64))),(11,.int .i64 (fr.map (V.int .i64)).length),(12,.int .i64 j),(16,.lst (to.map (V.int .i64))),(17,.int .i64 (to.map (V.int .i64)).length),(18,.int .i64 ((k+1:Nat):Int))],[some (.row 5 [.agg [.sl 1 0 S.T.length,.sl 2 0 S.F.length,.nils,.nils,.bool false]]),some (.row 1 (S.T.map (V.int .i64))),some (.row 1 (CU (AZ 3 (to.take (k+1)) G))),some (.row 1 ((AE (AZ 3 (to.take (k+1)) G) 0).map (V.int .i64))),some (.row 1 ((AE (AZ 3 (to.take (k+1)) G) 1).map (V.int .i64))),some (.row 1 ((AE (AZ 3 (to.take (k+1)) G) 2).map (V.int .i64))),some (.row 1 ((AE (AZ 3 (to.take (k+1)) G) 3).map (V.int .i64))),some (.hid vs [.ptr 0 0 0,.lst (fr.map (V.int .i64)),.lst (to.map (V.int .i64))])]⟩:ES):=by
      rw [hne]
      rfl
     generalize (AE H 3).length=m at*
     generalize (AE H 0).map (V.int .i64)=R0 at*
     generalize (AE H 1).map (V.int .i64)=R1 at*
     generalize (AE H 2).map (V.int .i64)=R2 at*
     generalize (AE H 3).map (V.int .i64)=R3 at*
     generalize CU H=L at*
     conv=>whnf
     repeat' (first|refine A2 ?_|refine AO ?_|refine AV ?_|refine Ad ?_|refine Cr 6 hct hC C4 rfl hnr rfl hfz rfl rfl ?_)<;>conv=>whnf
     exact AD [0,2,7,10,11,12,16,17,18] (k+1) hlk (by show to.length - (k+1) < to.length - k;omega) hfin
    ·rw [decide_eq_false hm] at hct
     have h1:Df 3 q H=H.set 3 (AE H 3++[q]):=if_neg hm
     rw [h1] at hne
     have hfin:(⟨50,[(0,.ptr 0 0 0),(2,.lst (to.map (V.int .i64))),(7,.int .i64 3),(10,.lst (fr.map (V.int .i64))),(11,.int .i64 (fr.map (V.int .i64)).length),(12,.int .i64 j),(16,.lst (to.map (V.int .i64))),(17,.int .i64 (to.map (V.int .i64)).length),(18,.int .i64 ((k:Int)+1))],[some (.row 5 [.agg [.sl 1 0 S.T.length,.sl 2 0 S.F.length,.nils,.nils,.bool false]]),some (.row 1 (AF 8 (AF 6 (S.T.map (V.int .i64))))),some (.row 1 (AF 8 ((AF 6 (CU H)).set 3 (.sl 6 0 ((AE H 3).length+1))))),some (.row 1 (AF 8 (AF 6 ((AE H 0).map (V.int .i64))))),some (.row 1 (AF 8 (AF 6 ((AE H 1).map (V.int .i64))))),some (.row 1 (AF 8 (AF 6 ((AE H 2).map (V.int .i64))))),some (.row 1 (AF 8 (AF 6 (List.take (AE H 3).length (List.drop 0 ((AE H 3).map (V.int .i64)))++[V.int .i64 q])))),some (.hid vs [.ptr 0 0 0,.lst (fr.map (V.int .i64)),.lst (to.map (V.int .i64))])]⟩:ES)=(⟨50,[(0,.ptr 0 0 0),(2,.lst (to.map (V.int .i64))),(7,.int .i64 3),(10,.lst (fr.map (V.int .i64))),(11,.int .i64 (fr.map (V.int .i64)).length),(12,.int .i64 j),(16,.lst (to.map (V.int .i64))),(17,.int .i64 (to.map (V.int .i64)).length),(18,.int .i64 ((k+1:Nat):Int))],[some (.row 5 [.agg [.sl 1 0 S.T.length,.sl 2 0 S.F.length,.nils,.nils,.bool false]]),some (.row 1 (S.T.map (V.int .i64))),some (.row 1 (CU (AZ 3 (to.take (k+1)) G))),some (.row 1 ((AE (AZ 3 (to.take (k+1)) G) 0).map (V.int .i64))),some (.row 1 ((AE (AZ 3 (to.take (k+1)) G) 1).map (V.int .i64))),some (.row 1 ((AE (AZ 3 (to.take (k+1)) G) 2).map (V.int .i64))),some (.row 1 ((AE (AZ 3 (to.take (k+1)) G) 3).map (V.int .i64))),some (.hid vs [.ptr 0 0 0,.lst (fr.map (V.int .i64)),.lst (to.map (V.int .i64))])]⟩:ES):=by
      have e0:=Le (F:=H) (i:=3) (by omega) (by omega) q
      rw [show 3+3=6 from rfl] at e0
      rw [hne,e0,Jj (by omega) q,Cn (j:=0) (i:=3) (by omega) (by decide) (AE H 3++[q]),Cn (j:=1) (i:=3) (by omega) (by decide) (AE H 3++[q]),Cn (j:=2) (i:=3) (by omega) (by decide) (AE H 3++[q]),H2]
      rfl
     have gs2':(AF 6 (CU H))[0+Int.toNat 3]?=some .any:=gs2
     generalize (AE H 3).length=m at*
     generalize (AE H 0).map (V.int .i64)=R0 at*
     generalize (AE H 1).map (V.int .i64)=R1 at*
     generalize (AE H 2).map (V.int .i64)=R2 at*
     generalize (AE H 3).map (V.int .i64)=R3 at*
     generalize CU H=L at*
     generalize S.T.map (V.int .i64)=T0 at*
     conv=>whnf
     repeat' (first|(first|refine A2 ?_|refine AO ?_|refine AV ?_|refine Ad ?_|(refine EA hE ⟨1,[(0,none),(1,none),(2,none),(3,none),(4,none),(5,none),(6,none),(7,none),(8,none),(9,none),(10,none),(11,none),(12,none),(13,some 0)],some 14,[0,1,2,3,4],[[],[3],[2,3],[1,2,3],[0,1,2,3],[4],[3,4],[2,3,4],[1,2,3,4],[0,1,2,3,4]],[]⟩ [⟨0,[(15,none)],some 16,[],[[]],[]⟩] [[]] [0,1,2,3,4] 14 ?_ ?_;decide +kernel))<;>conv=>whnf|refine EqL.mk rfl rfl|(first|refine Cr 6 hct hC C4 rfl hnr rfl hfz rfl rfl ?_|refine EN (Nat.le_refl 1) ?_|(refine EN ⟨?_,?_,?_⟩ ?_;omega;(show _+1≤9223372036854775807;omega);(show (_+1)*8≤140737488355328;omega))|refine JM ?_ ?_)<;>conv=>whnf)
     all_goals exact AM [0,2,7,10,11,12,16,17,18] [8] (k+1) hlk (by show to.length - (k+1) < to.length - k;omega) hfin
   ·obtain rfl:k=to.length:=by omega
    rw [List.take_length]
    conv=>whnf
    repeat' (first|refine A1 ?_|refine AV ?_)<;>conv=>whnf
    refine AD [0,2,10,11,12] (j+1) hlt (by show fr.length - (j+1) < fr.length - j;omega) ?_
    conv=>whnf
    rw [hend]
    rfl
 ·obtain rfl:j=fr.length:=by omega
  rw [List.take_length]
  conv=>whnf
  repeat' (first|refine A1 ?_|refine Ap (AH (BP hE ?_)))<;>conv=>whnf
  all_goals
   refine ⟨rfl,rfl,rfl,?_⟩
   simp only [Bt,Sn,fo,CS]
end Go.Proofs.YtkaiffheakalmaaGreatDoor
