/- Joined. No conditions. -/
import Derived.Test.YtkaiffheakalmaaGreatDoorJ9bi
set_option linter.unusedSimpArgs false
set_option linter.unusedVariables false
set_option maxRecDepth 100000
namespace Go.Proofs.YtkaiffheakalmaaGreatDoor
open Go.RowKit
theorem QS:KeyOk Tryz.prog 119 (fun x:Int=>Value.int .i64 x) (fun x=>V.int .i64 x) where
 map:=⟨3,3,by kernel_rfl,fun w=>Tryz.zeroValue3 w,fun e a w=>MapKept.run_checkKey (d:=.int .i64) (k:=.int .i64 a) (by kernel_rfl) (show MapKept.IsKey (.int .i64) (.int .i64 a) from rfl) e 9999,fun a w L es h=>Hc (d:=.int .i64) (kV:=fun x:Int=>Value.int .i64 x) (by kernel_rfl) (fun a b=>by
  simp only [Instr.sameNow]
  simp only [if_true]
  congr 1) a w L es h⟩
 rep:=fun w I bl v a h=>h.inv_int
set_option maxHeartbeats 16000000 in
theorem SM {N:List (List Int)} {F:List Bool} {n:Nat} (hWF:WFp n N F) (h1:1≤n) (hn2:n≤1048575):Fn1G Tryz.prog GT 25 [Dn N F] (iP (CY (Eh n N) (Dg F) 0)):=by
 have hNm:(N.map BV).length=N.length:=by simp
 have hFm:(F.map V.bool).length=F.length:=by simp
 have hNl:=hWF.lenN
 have hFl:=hWF.lenF
 have hcls:=N5 hWF hn2
 have e1:∀R:List (List Int),List.take R.length (List.drop 0 (R.map AL))=R.map AL:=fun R=>by rw [List.drop_zero,List.take_of_length_le (by simp)]
 have e2:∀G:List Bool,List.take G.length (List.drop 0 (G.map V.bool))=G.map V.bool:=fun G=>by rw [List.drop_zero,List.take_of_length_le (by simp)]
 unfold Dn at hcls ⊢
 refine GN Tryz.func25 fun C hC hW hG hE=>?_
 conv=>whnf
 skip
 refine JT (hcls.c hC hW CD hG) hC Ua ?_ ?_ ?_
 ·kernel_rfl
 ·kernel_rfl
 intro r hr
 obtain ⟨A,rfl,hAl,hA⟩:=hr
 have hA0:ci (Ei A) 0=ci A 0:=KX hAl h1
 have hAm:(A.map (V.int .i64)).length=A.length:=by simp
 have g0:(A.map (V.int .i64))[Int.toNat 0]?=some (.int .i64 (ci A 0)):=by
  show (A.map (V.int .i64))[0]?=_
  rw [List.getElem?_map,Id hAl h1]
  rfl
 unfold AL
 conv=>whnf
 repeat' (first|refine AO ?_|refine Ad ?_|refine AY (AK 2 (z:=1) (els:=[.int .i64 (-1)]) rfl ⟨trivial,trivial⟩ (AH ?_))|refine AN Tc hC Ub ?_|refine DD (Ok 1 2 3 2 3 (y:=.int .i64 0) (za:=1) (zb:=1) (la:=[AL (List.replicate 8 (-1))]) (lb:=[.bool false]) rfl rfl rfl rfl (by decide) (by decide) (by decide) ⟨trivial,trivial⟩ ⟨trivial,trivial⟩ rfl rfl (by decide) rfl rfl (AH (AC hE ?_)))|refine Mq ?_|refine cu (kV:=fun x:Int=>Value.int .i64 x) (kA:=fun x=>V.int .i64 x) (by rw [hC];exact QS) 2 [] (ci A 0) 0 rfl rfl rfl rfl rfl ?_|refine GV (fun h=>?_) (fun h=>?_))<;>conv=>whnf
 ·refine ⟨rfl,.inl ⟨?_,rfl⟩⟩
  refine Classical.byContradiction fun hd=>?_
  have:=hA.part.pos 0 (by omega) (D6.2 hd)
  omega
 refine Ab (fun ((i,S,M,R,G):Nat×List Int×List (Int×Int)×List (List Int)×List Bool)=>⟨117,[(1,.rp [.lst (N.map BV),.lst (F.map V.bool)]),(2,.ptr 1 0 0),(3,.int .i64 0),(4,.lst (A.map (V.int .i64))),(6,.it 2),(7,.sl 3 0 S.length),(8,.ptr 4 0 0),(9,.int .i64 i)],
  [some (.row 1 (R.map AL)),some (.row 2 [.agg [.nils,.nils]]),some (Jv (fun x:Int=>Value.int .i64 x) M),some (.row 1 (S.map (V.int .i64))),some (.row 2 [.agg [.sl 0 0 R.length,.sl 5 0 G.length]]),some (.row 1 (G.map V.bool))]⟩)
  (fun (i,S,M,R,G)=>i≤S.length∧OInv (Eh n N) (Dg F) (n+1) (Ei A) S M R.flatten∧R.length=i∧(∀r∈R,r.length=8)∧G=(S.take i).map fun s=>Dv (Dg F) s.toNat) (fun (i,_)=>n+2 - i) (0,[0],[(ci A 0,0)],[],[]) hE ?_ ⟨Nat.zero_le _,by rw [←hA0];exact OInv.start hA (by omega) (by omega),rfl,fun r hr=>by simp at hr,rfl⟩ ?_
 ·refine AK 0 (z:=2) (els:=[Dn N F]) rfl ⟨⟨trivial,trivial,trivial⟩,trivial⟩ (Cw 4 0 1 rfl rfl (Cw 4 1 1 rfl rfl (AP [1,2,3,4,6,7,8,9] ?_)))
  conv=>whnf
  rfl
 rintro ⟨i,S,M,R,G⟩ ⟨hi,hO,hR,hR8,hG⟩
 have hSb:=hO.bound
 have hSm:(S.map (V.int .i64)).length=S.length:=by simp
 have hRm:(R.map AL).length=R.length:=by simp
 have hGm:(G.map V.bool).length=G.length:=by simp
 have hGl:G.length=i:=by rw [hG];simp;omega
 have hfl:R.flatten.length=8*i:=by
  rw [←hR]
  clear hO hR hG hRm
  induction R with
  | nil=>rfl
  | cons r R ih=>
    have e:=ih (fun q hq=>hR8 q (by simp [hq]))
    have e8:=hR8 r (by simp)
    rw [List.flatten_cons,List.length_append,e,e8,List.length_cons]
    omega
 by_cases hlt:i < S.length
 ·obtain ⟨s,hs⟩:∃s,S[i]?=some s:=⟨_,List.getElem?_eq_getElem hlt⟩
  obtain ⟨hs0,hs1⟩:=dR hNl hFl hO s (List.mem_of_getElem? hs)
  have hsn:s.toNat < n:=by omega
  obtain ⟨row,hrow⟩:∃x,N[s.toNat]?=some x:=⟨_,List.getElem?_eq_getElem (by omega)⟩
  obtain ⟨h8,hxs⟩:=hWF.rows row (List.mem_of_getElem? hrow)
  obtain ⟨a0,a1,a2,a3,a4,a5,a6,a7,rfl⟩:=M6 h8
  have g1:(S.map (V.int .i64))[0+Int.toNat (i:Int)]?=some (.int .i64 s):=by rw [Nat.zero_add,Int.toNat_natCast,List.getElem?_map,hs];rfl
  have g2:(N.map BV)[Int.toNat s]?=some (BV [a0,a1,a2,a3,a4,a5,a6,a7]):=by rw [List.getElem?_map,hrow];rfl
  conv=>whnf
  repeat' (first|refine A2 ?_|refine AO ?_|refine Ad ?_|(refine An hE ?_ ?_;decide +kernel)|intro hlen)<;>conv=>whnf
  refine Ab (fun ((c,S,M,row):Nat×List Int×List (Int×Int)×List Int)=>⟨117,[(1,.rp [.lst (N.map BV),.lst (F.map V.bool)]),(2,.ptr 1 0 0),(3,.int .i64 0),(4,.lst (A.map (V.int .i64))),(6,.it 2),(7,.sl 3 0 S.length),(8,.ptr 4 0 0),(9,.int .i64 i),(10,.sl 6 0 row.length),(47,BV [a0,a1,a2,a3,a4,a5,a6,a7]),(48,.int .i64 c)],
   [some (.row 1 (R.map AL)),some (.row 2 [.agg [.nils,.nils]]),some (Jv (fun x:Int=>Value.int .i64 x) M),some (.row 1 (S.map (V.int .i64))),some (.row 2 [.agg [.sl 0 0 R.length,.sl 5 0 G.length]]),some (.row 1 (G.map V.bool)),some (.row 1 (row.map (V.int .i64)))]⟩)
   (fun (c,S,M,row)=>c≤8∧row.length=8∧S[i]?=some s∧OInv (Eh n N) (Dg F) (n+1) (Ei A) S M (R.flatten++row.take c)∧G=(S.take i).map fun s=>Dv (Dg F) s.toNat) (fun (c,_)=>8 - c) (0,S,M,List.replicate 8 0) hE ?_ ⟨Nat.zero_le _,by simp,hs,by rw [List.take_zero,List.append_nil];exact hO,hG⟩ ?_
  ·refine AP [1,2,3,4,6,7,8,9,10,47,48] ?_
   conv=>whnf
   rfl
  clear hO hs hG hSm hSb hlt hi g1
  rintro ⟨c,S,M,row⟩ ⟨hc,hrl,hs,hO,hG⟩
  have hSb:=hO.bound
  have hSm:(S.map (V.int .i64)).length=S.length:=by simp
  have hlt:i < S.length:=(List.getElem?_eq_some_iff.1 hs).1
  have hrm:(row.map (V.int .i64)).length=row.length:=by simp
  by_cases hc8:c < 8
  ·obtain ⟨row',x,hrow',_,hxc,hx0,hxn,ex⟩:=hWF.get hsn hc8
   rw [hrow] at hrow'
   cases hrow'
   have hWl:(R.flatten++row.take c).length=8*i+c:=by simp [hfl,hrl];omega
   have hsn':∀v:Int,R.flatten++(row.set c v).take (c+1)=R.flatten++row.take c++[v]:=fun v=>by
    rw [List.append_assoc,List.take_add_one,List.take_set_of_le (Nat.le_refl c),List.getElem?_set_self (by omega)]
    rfl
   have hls:∀v:Int,(row.set c v).length=row.length:=fun v=>List.length_set
   obtain ⟨y,hy⟩:∃y,row[c]?=some y:=⟨_,List.getElem?_eq_getElem (by omega)⟩
   have g4:(row.map (V.int .i64))[0+Int.toNat (c:Int)]?=some (.int .i64 y):=by rw [Nat.zero_add,Int.toNat_natCast,List.getElem?_map,hy];rfl
   have g5:((row.map (V.int .i64)).set (0+Int.toNat (c:Int)) (.int .i64 (-1)))[0+Int.toNat (c:Int)]?=some (.int .i64 (-1)):=by rw [List.getElem?_set_self (by rw [Nat.zero_add,Int.toNat_natCast,hrm];omega)]
   by_cases hneg:x < 0
   ·have hput:=hO.dead hWF.wf hA hs hWl hc8 ex (by rw [eF hAl ⟨hx0,hxn⟩,if_pos hneg];omega)
    rw [←hsn'] at hput
    clear ex hO hWl hsn'
    obtain rfl|rfl|rfl|rfl|rfl|rfl|rfl|rfl:c=0∨c=1∨c=2∨c=3∨c=4∨c=5∨c=6∨c=7:=by omega
    all_goals simp only [List.getElem?_cons_zero,List.getElem?_cons_succ,Option.some.injEq] at hxc
    all_goals subst hxc
    all_goals
     conv=>whnf
     repeat' (first|refine A2 ?_|refine AO ?_|refine AV ?_|refine Ad ?_)<;>conv=>whnf
     refine AD [1,2,3,4,6,7,8,9,10,47,48] (_+1,S,M,row.set _ (-1)) ⟨?_,?_,hs,hput,hG⟩ ?_ ?_
     ·omega
     ·rw [List.length_set];exact hrl
     ·show 8 - _ < 8 - _;omega
     conv=>whnf
     rw [Nat.zero_add,Int.toNat_natCast,←List.map_set]
     rw [←hls (-1)]
     rfl
   have hxt:x.toNat < n:=by omega
   have eup:aM n x=x:=by unfold aM;rw [if_neg hneg]
   have hcx:ci (Ei A) x.toNat=ci A x.toNat:=KX hAl hxt
   rw [eup] at ex
   have g3:(A.map (V.int .i64))[Int.toNat x]?=some (.int .i64 (ci A x.toNat)):=by rw [List.getElem?_map,Id hAl hxt];rfl
   by_cases hd:ci A x.toNat < 0
   ·have hput:=hO.dead hWF.wf hA hs hWl hc8 ex (by omega)
    rw [←hsn'] at hput
    clear ex hO hWl hsn'
    obtain rfl|rfl|rfl|rfl|rfl|rfl|rfl|rfl:c=0∨c=1∨c=2∨c=3∨c=4∨c=5∨c=6∨c=7:=by omega
    all_goals simp only [List.getElem?_cons_zero,List.getElem?_cons_succ,Option.some.injEq] at hxc
    all_goals subst hxc
    all_goals
     conv=>whnf
     repeat' (first|refine A2 ?_|refine A1 ?_|refine AO ?_|refine AV ?_|refine Ad ?_)<;>conv=>whnf
     refine AD [1,2,3,4,6,7,8,9,10,47,48] (_+1,S,M,row.set _ (-1)) ⟨?_,?_,hs,hput,hG⟩ ?_ ?_
     ·omega
     ·rw [List.length_set];exact hrl
     ·show 8 - _ < 8 - _;omega
     conv=>whnf
     rw [Nat.zero_add,Int.toNat_natCast,←List.map_set]
     rw [←hls (-1)]
     rfl
   ·cases hl:A8 (ci A x.toNat) M with
    | some v=>
      have hput:=hO.known hWF.wf hA hs hWl hc8 ex (by rw [hcx];exact hl)
      rw [←hsn'] at hput
      clear ex hO hWl hsn'
      obtain rfl|rfl|rfl|rfl|rfl|rfl|rfl|rfl:c=0∨c=1∨c=2∨c=3∨c=4∨c=5∨c=6∨c=7:=by omega
      all_goals simp only [List.getElem?_cons_zero,List.getElem?_cons_succ,Option.some.injEq] at hxc
      all_goals subst hxc
      all_goals
       conv=>whnf
       repeat' (first|refine A2 ?_|refine A1 ?_|refine AO ?_|refine AV ?_|refine Ad ?_|refine Gc (kV:=fun x:Int=>Value.int .i64 x) (kA:=fun x=>V.int .i64 x) (by rw [hC];exact QS) 2 M _ v rfl rfl rfl hl ?_)<;>conv=>whnf
       refine AD [1,2,3,4,6,7,8,9,10,47,48] (_+1,S,M,row.set _ v) ⟨?_,?_,hs,hput,hG⟩ ?_ ?_
       ·omega
       ·rw [List.length_set];exact hrl
       ·show 8 - _ < 8 - _;omega
       conv=>whnf
       rw [Nat.zero_add,Int.toNat_natCast,List.set_set,←List.map_set]
       rw [←hls v]
       rfl
    | none=>
      have hput:=hO.new hWF.wf hA hs hWl hc8 (by omega) ex (by omega) (by rw [hcx];exact hl)
      rw [hcx] at hput
      rw [←hsn'] at hput
      have hG':G=((S++[x]).take i).map fun s=>Dv (Dg F) s.toNat:=by rw [List.take_append_of_le_length (by omega)];exact hG
      have hs':(S++[x])[i]?=some s:=Fl hs
      have g7:(AF 3 ((row.map (V.int .i64)).set (0+Int.toNat (c:Int)) (.int .i64 (-1))))[0+Int.toNat (c:Int)]?=some (.int .i64 (-1)):=by rw [←List.map_set,AA _ (AJ _),List.map_set];exact g5
      clear ex hO hWl hsn'
      obtain rfl|rfl|rfl|rfl|rfl|rfl|rfl|rfl:c=0∨c=1∨c=2∨c=3∨c=4∨c=5∨c=6∨c=7:=by omega
      all_goals simp only [List.getElem?_cons_zero,List.getElem?_cons_succ,Option.some.injEq] at hxc
      all_goals subst hxc
      all_goals
       conv=>whnf
       repeat' (first|refine A2 ?_|refine A1 ?_|refine AO ?_|refine AV ?_|refine Ad ?_|refine Gd (kV:=fun x:Int=>Value.int .i64 x) (kA:=fun x=>V.int .i64 x) (by rw [hC];exact QS) 2 M _ rfl rfl rfl hl ?_|refine LX (kV:=fun x:Int=>Value.int .i64 x) (kA:=fun x=>V.int .i64 x) (by rw [hC];exact QS) 2 M _ S.length rfl rfl rfl rfl hl ?_|refine EN (Nat.le_refl 1) ?_|(refine EN ⟨?_,?_,?_⟩ ?_;(simp<;>omega);(show _+1≤9223372036854775807;omega);(show (_+1)*_≤140737488355328;omega))|intro hlen)<;>conv=>whnf
       refine AM [1,2,3,4,6,7,8,9,10,47,48] [7] (_+1,S++[_],M++[(_,(S.length:Int))],row.set _ (S.length:Int)) ⟨?_,?_,hs',hput,hG'⟩ ?_ ?_
       ·omega
       ·rw [List.length_set];exact hrl
       ·show 8 - _ < 8 - _;omega
       conv=>whnf
       rw [Po,Pp]
       simp only [Nat.zero_add,Int.toNat_natCast,←List.map_set,AA _ (AJ _),AA _ (Jg _),AA _ (A6 _),List.set_set]
       rw [←hls (S.length:Int)]
       rfl
  ·obtain rfl:c=8:=by omega
   rw [List.take_of_length_le (by omega)] at hO
   have g1:(S.map (V.int .i64))[0+Int.toNat (i:Int)]?=some (.int .i64 s):=by rw [Nat.zero_add,Int.toNat_natCast,List.getElem?_map,hs];rfl
   have g1':(AF 0 (S.map (V.int .i64)))[0+Int.toNat (i:Int)]?=some (.int .i64 s):=by rw [AA _ (AJ _)];exact g1
   have g6:(F.map V.bool)[Int.toNat s]?=some (.bool (Dv (Dg F) s.toNat)):=by rw [List.getElem?_map,hWF.fin hsn];rfl
   have hO':OInv (Eh n N) (Dg F) (n+1) (Ei A) S M (R++[row]).flatten:=by rw [List.flatten_append,List.flatten_cons,List.flatten_nil,List.append_nil];exact hO
   have hR8':∀r∈R++[row],r.length=8:=fun r hr=>by
    rcases List.mem_append.1 hr with hr|hr
    ·exact hR8 r hr
    ·simp at hr;subst hr;exact hrl
   have hG':G++[Dv (Dg F) s.toNat]=(S.take (i+1)).map fun s=>Dv (Dg F) s.toNat:=by
    rw [hG,List.take_add_one,hs,List.map_append]
    rfl
   generalize Dv (Dg F) s.toNat=b at g6 hG'
   obtain ⟨r0,r1,r2,r3,r4,r5,r6,r7,rfl⟩:=M6 hrl
   cases b
   all_goals
    conv=>whnf
    repeat' (first|(first|refine A1 ?_|refine AO ?_|refine AV ?_|refine Ad ?_|(refine EA hE ⟨2,[(0,none),(1,none),(2,none),(5,none),(6,none),(7,none),(8,none),(9,none),(10,none),(11,none),(12,none),(13,none),(14,none),(3,some 0),(15,some 1)],some 4,[5,6,7,8,9,10,11,12,13,14,15],[[],[6],[5,6],[15],[6,15],[5,6,15],[14,15],[6,14,15],[5,6,14,15],[13,14,15],[6,13,14,15],[5,6,13,14,15],[8,13,14,15],[6,8,13,14,15],[5,6,8,13,14,15],[7,8,13,14,15],[6,7,8,13,14,15],[5,6,7,8,13,14,15],[12,13,14,15],[6,12,13,14,15],[5,6,12,13,14,15],[8,12,13,14,15],[6,8,12,13,14,15],[5,6,8,12,13,14,15],[7,8,12,13,14,15],[6,7,8,12,13,14,15],[5,6,7,8,12,13,14,15],[11,12,13,14,15],[6,11,12,13,14,15],[5,6,11,12,13,14,15],[8,11,12,13,14,15],[6,8,11,12,13,14,15],[5,6,8,11,12,13,14,15],[7,8,11,12,13,14,15],[6,7,8,11,12,13,14,15],[5,6,7,8,11,12,13,14,15],[9,11,12,13,14,15],[6,9,11,12,13,14,15],[5,6,9,11,12,13,14,15],[8,9,11,12,13,14,15],[6,8,9,11,12,13,14,15],[5,6,8,9,11,12,13,14,15],[7,8,9,11,12,13,14,15],[6,7,8,9,11,12,13,14,15],[5,6,7,8,9,11,12,13,14,15],[10,11,12,13,14,15],[6,10,11,12,13,14,15],[5,6,10,11,12,13,14,15],[8,10,11,12,13,14,15],[6,8,10,11,12,13,14,15],[5,6,8,10,11,12,13,14,15],[7,8,10,11,12,13,14,15],[6,7,8,10,11,12,13,14,15],[5,6,7,8,10,11,12,13,14,15],[9,10,11,12,13,14,15],[6,9,10,11,12,13,14,15],[5,6,9,10,11,12,13,14,15],[8,9,10,11,12,13,14,15],[6,8,9,10,11,12,13,14,15],[5,6,8,9,10,11,12,13,14,15],[7,8,9,10,11,12,13,14,15],[6,7,8,9,10,11,12,13,14,15],[5,6,7,8,9,10,11,12,13,14,15]],[]⟩ [⟨1,[(17,none)],some 16,[17],[[],[17]],[(15,0)]⟩,⟨0,[],some 18,[],[[]],[]⟩,⟨0,[(19,none)],some 20,[],[[]],[]⟩] [[],[15]] [5,6,7,8,9,10,11,12,13,14] 4 ?_ ?_;decide +kernel))<;>conv=>whnf|refine EqL.mk rfl rfl|(first|refine EN (Nat.le_refl 1) ?_|(refine EN ⟨?_,?_,?_⟩ ?_;(simp [AQ]<;>omega);(show _+1≤9223372036854775807;omega);(show (_+1)*_≤140737488355328;omega))|refine By ?_|refine JM ?_ ?_)<;>conv=>whnf)
    all_goals
     refine AK 6 (z:=1) (els:=[r0,r1,r2,r3,r4,r5,r6,r7].map (V.int .i64)) rfl ⟨trivial,trivial,trivial,trivial,trivial,trivial,trivial,trivial,trivial⟩ (AM [1,2,3,4,6,7,8,9] [7,8,9] (i+1,S,M,R++[[r0,r1,r2,r3,r4,r5,r6,r7]],G++[_]) ⟨by omega,hO',by rw [List.length_append,hR];rfl,hR8',hG'⟩ ?_ ?_)
     ·show n+2 - (i+1) < n+2 - i
      omega
     conv=>whnf
     simp only [AA _ (Jg _),AA _ (Gf _),AA _ (AJ _),M7,O0,e1,e2,AX _ _ (Jg _),AX _ _ (Gf _),AX _ _ (AJ _),List.map_append,List.length_append]
     rfl
 ·obtain rfl:i=S.length:=by omega
  have hcan:=hO.canon (G:=G) hR hR8 (by rw [hG,List.take_length])
  conv=>whnf
  repeat' (first|refine A1 ?_|refine DD (Ok 1 2 3 0 5 (y:=.int .i64 0) (za:=1) (zb:=1) (la:=R.map AL) (lb:=G.map V.bool) rfl rfl rfl rfl (by decide) (by decide) (by decide) (Jg R) (A6 G) hRm.symm hGm.symm (by decide) rfl rfl (AH (AC hE ?_)))|refine GV (fun h=>?_) (fun h=>?_)|refine AC hE ?_|intro hlen)<;>conv=>whnf
  ·exact ⟨rfl,.inr ⟨R,G,hcan,by rw [if_neg (by omega)]⟩⟩
  ·exact ⟨rfl,.inr ⟨R,G,hcan,by rw [if_pos (by omega)]⟩⟩
def Z3 (T:List (List Int)) (F:List Bool) (x:Nat) (w:List Nat):Bool:=Dv F (w.foldl (Em T) x)
def XI (T:List (List Int)) (F:List Bool) (C:List Int):Bool:=
 (List.range T.length).all fun i=>(List.range 8).all fun c=>decide (Em T i c < T.length)
def fS (T:List (List Int)) (F:List Bool) (C:List Int):Bool:=
 (List.range T.length).all fun i=>(List.range T.length).all fun j=>!decide (ci C i=ci C j) || ((Dv F i==Dv F j)&&(List.range 8).all fun c=>decide (ci C (Em T i c)=ci C (Em T j c)))
def fT (T:List (List Int)) (F:List Bool) (C:List Int):Bool:=
 (List.range T.length).all fun i=>!decide (ci C i= -1) || (!Dv F i&&(List.range 8).all fun c=>decide (ci C (Em T i c)= -1))
def iY (T:List (List Int)) (F:List Bool) (Ws:List (List Nat)) (S:List Nat):Bool:=
 (Ws.all fun w=>w.all fun c=>decide (c < 8))&&S.all fun s=>decide (s < T.length)&&Ws.any fun w=>Z3 T F s w
def eD (T:List (List Int)) (F:List Bool) (Ws:List (List Nat)) (S:List Nat):Bool:=
 (List.range S.length).all fun i=>(List.range S.length).all fun j=>decide (i=j) || Ws.any fun w=>Z3 T F (S.getD i 0) w != Z3 T F (S.getD j 0) w
def iZ (T:List (List Int)) (C:List Int) (S:List Nat) (R:List (List Int)):Bool:=
 decide (R.length=S.length)&&(R.all fun r=>decide (r.length=8))&&(List.range (8*S.length)).all fun p=>
  (decide (R.flatten.getD p 0= -1)&&decide (ci C (Em T (S.getD (p / 8) 0) (p % 8))= -1)) ||
  (decide (0≤R.flatten.getD p 0)&&decide ((R.flatten.getD p 0).toNat < S.length)&&decide (ci C (S.getD (R.flatten.getD p 0).toNat 0)=ci C (Em T (S.getD (p / 8) 0) (p % 8))))
def ia (S:List Nat) (R:List (List Int)):Bool:=
 (List.range S.length).all fun j=>decide (j=0) || (List.range (8*S.length)).any fun p=>decide (p / 8 < j)&&decide (R.flatten.getD p 0=(j:Int))&&(List.range p).all fun q=>decide (R.flatten.getD q 0 < (j:Int))
def QL (T:List (List Int)) (F:List Bool) (C:List Int) (Ws:List (List Nat)) (S:List Nat) (R:List (List Int)) (G:List Bool):Bool:=
 XI T F C&&fS T F C&&fT T F C&&iY T F Ws S&&eD T F Ws S&&iZ T C S R&&ia S R&&decide (S.getD 0 1=0)&&decide (0 < S.length)&&decide (G=S.map (Dv F))
section
variable {T:List (List Int)} {F:List Bool} {C:List Int} {Ws:List (List Nat)} {S:List Nat} {R:List (List Int)} {G:List Bool}
theorem dI (hA:XI T F C=true) (hB:fS T F C=true) {i j:Nat} (hi:i < T.length) (hj:j < T.length) (e:ci C i=ci C j):CY T F i=CY T F j:=by
 unfold XI at hA
 unfold fS at hB
 simp only [List.all_eq_true,List.mem_range,decide_eq_true_eq] at hA
 simp only [List.all_eq_true,List.mem_range,Bool.or_eq_true,Bool.not_eq_true',decide_eq_false_iff_not,Bool.and_eq_true,beq_iff_eq,decide_eq_true_eq] at hB
 have key:∀(w:List Nat) (i j:Nat),i < T.length→j < T.length→ci C i=ci C j→Eq w→Dv F (w.foldl (Em T) i)=Dv F (w.foldl (Em T) j):=by
  intro w
  induction w with
  | nil=>
    intro i j hi hj e _
    rcases hB i hi j hj with h|h
    ·exact absurd e h
    ·exact h.1
  | cons c w ih=>
    intro i j hi hj e hw
    have hc:=hw c (by simp)
    rcases hB i hi j hj with h|h
    ·exact absurd e h
    ·exact ih _ _ (hA i hi c hc) (hA j hj c hc) (h.2 c hc) (fun d hd=>hw d (by simp [hd]))
 exact VR fun w hw=>key w i j hi hj e hw
theorem Z4 (hA:XI T F C=true) (hD:fT T F C=true) {i:Nat} (hi:i < T.length) (e:ci C i= -1):JS (CY T F i):=by
 unfold XI at hA
 unfold fT at hD
 simp only [List.all_eq_true,List.mem_range,decide_eq_true_eq] at hA
 simp only [List.all_eq_true,List.mem_range,Bool.or_eq_true,Bool.not_eq_true',decide_eq_false_iff_not,Bool.and_eq_true,decide_eq_true_eq] at hD
 have key:∀(w:List Nat) (i:Nat),i < T.length→ci C i= -1→Eq w→Dv F (w.foldl (Em T) i)=false:=by
  intro w
  induction w with
  | nil=>
    intro i hi e _
    rcases hD i hi with h|h
    ·exact absurd e h
    ·exact h.1
  | cons c w ih=>
    intro i hi e hw
    have hc:=hw c (by simp)
    rcases hD i hi with h|h
    ·exact absurd e h
    ·exact ih _ (hA i hi c hc) (h.2 c hc) (fun d hd=>hw d (by simp [hd]))
 intro w
 unfold CY
 cases hw:w.all (fun c=>decide (c < 8)) with
 | false=>rfl
 | true=>rw [key w i hi e fun c hc=>of_decide_eq_true (List.all_eq_true.1 hw c hc)];rfl
theorem Fp {α:Type} {l:List α} {i:Nat} {x d:α} (h:l[i]?=some x):l.getD i d=x:=by rw [List.getD_eq_getElem?_getD,h];rfl
theorem XJ (h:QL T F C Ws S R G=true):CanonM (CY T F 0) R G:=by
 unfold QL at h
 simp only [Bool.and_eq_true,decide_eq_true_eq] at h
 obtain ⟨⟨⟨⟨⟨⟨⟨⟨⟨hA,hB⟩,hD⟩,hL⟩,hS⟩,hR⟩,hO⟩,h0⟩,hpos⟩,hG⟩:=h
 unfold iY at hL
 simp only [Bool.and_eq_true,List.all_eq_true,decide_eq_true_eq,List.any_eq_true] at hL
 obtain ⟨hW,hL⟩:=hL
 unfold iZ at hR
 simp only [Bool.and_eq_true,List.all_eq_true,decide_eq_true_eq,Bool.or_eq_true,List.mem_range] at hR
 obtain ⟨⟨hRl,hR8⟩,hR⟩:=hR
 have hWl:R.flatten.length=8*S.length:=by
  rw [←hRl]
  clear hO hR hRl
  induction R with
  | nil=>rfl
  | cons r R ih=>
    have e:=ih (fun q hq=>hR8 q (by simp [hq]))
    have e8:=hR8 r (by simp)
    rw [List.flatten_cons,List.length_append,e,e8,List.length_cons]
    omega
 have hSa:∀(j:Nat) (s:Nat),S[j]?=some s→s < T.length:=fun j s hs=>(hL s (List.mem_of_getElem? hs)).1
 have hAx:∀i,i < T.length→∀c,c < 8→Em T i c < T.length:=by
  have hA':=hA
  unfold XI at hA'
  simpa only [List.all_eq_true,List.mem_range,decide_eq_true_eq] using hA'
 have hrun:∀w∈Ws,∀s,CY T F s w=Z3 T F s w:=fun w hw s=>by
  unfold CY Z3
  rw [List.all_eq_true.2 fun c hc=>decide_eq_true (hW w hw c hc),Bool.true_and]
 refine ⟨⟨S.map fun s=>CY T F s,⟨⟨?_,fun L hL'=>?_,fun i j L hi hj=>?_,?_,fun p v hp=>?_,fun j h1 hj=>?_⟩,?_⟩,?_⟩,hR8⟩
 ·obtain ⟨s,hs⟩:∃s,S[0]?=some s:=⟨_,List.getElem?_eq_getElem hpos⟩
  rw [Fp hs] at h0
  subst h0
  rw [List.getElem?_map,hs]
  rfl
 ·obtain ⟨s,hs,rfl⟩:=List.mem_map.1 hL'
  obtain ⟨_,w,hw,hr⟩:=hL s hs
  intro hd
  have:=hd w
  rw [hrun w hw,hr] at this
  cases this
 ·obtain ⟨s,hs,rfl⟩:=VS hi
  obtain ⟨s',hs',e⟩:=VS hj
  refine Classical.byContradiction fun hne=>?_
  unfold eD at hS
  simp only [List.all_eq_true,List.mem_range,Bool.or_eq_true,decide_eq_true_eq,List.any_eq_true] at hS
  rcases hS i (List.getElem?_eq_some_iff.1 hs).1 j (List.getElem?_eq_some_iff.1 hs').1 with h|⟨w,hw,h⟩
  ·exact hne h
  ·rw [Fp hs,Fp hs',←hrun w hw,←hrun w hw,e] at h
   simp at h
 ·rw [List.length_map,hWl];exact Nat.le_refl _
 ·have hpl:p < 8*S.length:=by rw [←hWl];exact (List.getElem?_eq_some_iff.1 hp).1
  obtain ⟨s,hs⟩:∃s,S[p / 8]?=some s:=⟨_,List.getElem?_eq_getElem (by omega)⟩
  have hsT:=hSa _ _ hs
  have hx:=hAx s hsT (p % 8) (Nat.mod_lt _ (by decide))
  refine ⟨CY T F s,by rw [List.getElem?_map,hs];rfl,?_⟩
  have hRp:=hR p hpl
  rw [Fp hp,Fp hs] at hRp
  rw [←HX (Nat.mod_lt _ (by decide))]
  rcases hRp with ⟨h1,h2⟩|⟨⟨h1,h2⟩,h3⟩
  ·exact .inl ⟨h1,Z4 hA hD hx h2⟩
  ·obtain ⟨s',hs'⟩:∃s',S[v.toNat]?=some s':=⟨_,List.getElem?_eq_getElem h2⟩
   rw [Fp hs'] at h3
   refine .inr ⟨v.toNat,by omega,?_⟩
   rw [List.getElem?_map,hs']
   exact congrArg some (dI hA hB (hSa _ _ hs') hx h3)
 ·rw [List.length_map] at hj
  unfold ia at hO
  simp only [List.all_eq_true,List.mem_range,Bool.or_eq_true,decide_eq_true_eq,List.any_eq_true,Bool.and_eq_true] at hO
  rcases hO j hj with h|⟨p,hp,⟨h2,h3⟩,h4⟩
  ·omega
  ·obtain ⟨v,hv⟩:∃v,R.flatten[p]?=some v:=⟨_,List.getElem?_eq_getElem (by omega)⟩
   rw [Fp hv] at h3
   refine ⟨p,h2,by rw [hv,h3],fun q hq v' hv'=>?_⟩
   have:=h4 q hq
   rwa [Fp hv'] at this
 ·rw [List.length_map,hWl]
 ·rw [hG,List.map_map]
  refine List.map_congr_left fun s _=>?_
  show Dv F s=CY T F s []
  rw [LV]
end
end Go.Proofs.YtkaiffheakalmaaGreatDoor
