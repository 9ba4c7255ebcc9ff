/- Copied, stripped. No conditions. -/
import Derived.Test.YtkaiffheakalmaaGreatDoorU9TlZk
import Derived.Test.YtkaiffheakalmaaGreatDoorU9TlZb
import Derived.Test.YtkaiffheakalmaaGreatDoorU9TlZd
set_option linter.unusedSimpArgs false
set_option linter.unusedVariables false
set_option maxRecDepth 100000
namespace Go.Proofs.YtkaiffheakalmaaGreatDoor
open Go.RowKit
theorem Om:KeyOk Tryz.prog 119 (fun x:Int=>Value.int .i64 x) (fun x=>V.int .i64 x) where
  map:=⟨3,3,by kernel_rfl,fun w=>Tryz.zeroValue3 w,fun e a w=>MapKept.run_checkKey (d:=.int .i64) (k:=.int .i64 a) (by kernel_rfl) (show MapKept.IsKey (.int .i64) (.int .i64 a) from rfl) e 9999,fun a w L es h=>Gq (d:=.int .i64) (kV:=fun x:Int=>Value.int .i64 x) (by kernel_rfl) (fun a b=>by
    simp only [Instr.sameNow]
    simp only [if_true]
    congr 1) a w L es h⟩
  rep:=fun w I bl v a h=>h.inv_int
set_option maxHeartbeats 16000000 in
theorem QW {N:List (List Int)} {F:List Bool} {n:Nat} (hWF:WFp n N F) (h1:1≤n) (hn2:n≤1048575):Fn1G Tryz.prog GT 25 [Cb N F] (gk (CH (D3 n N) (DG F) 0)):=by
  have hNm:(N.map A9).length=N.length:=by simp
  have hFm:(F.map V.bool).length=F.length:=by simp
  have hNl:=hWF.lenN
  have hFl:=hWF.lenF
  have hcls:=Ms hWF hn2
  have e1:∀R:List (List Int),List.take R.length (List.drop 0 (R.map AY))=R.map AY:=fun R=>by rw [List.drop_zero,List.take_of_length_le (by simp)]
  have e2:∀G:List Bool,List.take G.length (List.drop 0 (G.map V.bool))=G.map V.bool:=fun G=>by rw [List.drop_zero,List.take_of_length_le (by simp)]
  unfold Cb at hcls ⊢
  refine Gm (T:=Tryz.tt) Tryz.func25 rfl AR AB ?_ ?_ fun C hC hW hG hE=>?_
  . kernel_rfl
  . exact Nat.le_of_ble_eq_true (by kernel_rfl)
  conv=>whnf
  skip
  refine Xi (hcls.c hC hW DQ hG) hC Se ?_ ?_ ?_
  . kernel_rfl
  . kernel_rfl
  intro r hr
  obtain ⟨A,rfl,hAl,hA⟩:=hr
  have hA0:ci (D4 A) 0=ci A 0:=JW hAl h1
  have hAm:(A.map (V.int .i64)).length=A.length:=by simp
  have g0:(A.map (V.int .i64))[Int.toNat 0]?=some (.int .i64 (ci A 0)):=by
    show (A.map (V.int .i64))[0]?=_
    rw [List.getElem?_map,EE hAl h1]
    rfl
  unfold AY
  conv=>whnf
  repeat' (first|(refine Af (by first|assumption|omega) ?_;conv=>whnf)|(refine AQ (by assumption) ?_;conv=>whnf)|(refine Ak (AO 2 (z:=1) (els:=[.int .i64 (-1)]) rfl ⟨trivial,trivial⟩ (AP ?_));conv=>whnf)|(refine AC (Rx) hC Sf ?_ ?_ ?_;kernel_rfl;kernel_rfl;conv=>whnf)|(refine Ca (Nf 1 2 3 2 3 (y:=.int .i64 0) (za:=1) (zb:=1) (la:=[AY (List.replicate 8 (-1))]) (lb:=[.bool false]) rfl rfl rfl rfl (by decide) (by decide) (by decide) ⟨trivial,trivial⟩ ⟨trivial,trivial⟩ rfl rfl (by decide) rfl rfl (AP (AH hE ?_)));conv=>whnf)|(refine Ib ?_;conv=>whnf)|(refine ZW (kV:=fun x:Int=>Value.int .i64 x) (kA:=fun x=>V.int .i64 x) (by rw [hC];exact Om) 2 [] (ci A 0) 0 rfl rfl rfl rfl rfl ?_;conv=>whnf)|(refine He (fun h=>?_) (fun h=>?_)<;>conv=>whnf))
  . refine ⟨rfl,.inl ⟨?_,rfl⟩⟩
    refine Classical.byContradiction fun hd=>?_
    have:=hA.part.pos 0 (by omega) (Di.2 hd)
    omega
  refine Ae (fun ((i,S,M,R,G):Nat×List Int×List (Int×Int)×List (List Int)×List Bool)=>⟨117,[(1,.rp [.lst (N.map A9),.lst (F.map V.bool)]),(2,.ptr 1 0 0),(3,.int .i64 0),(4,.lst (A.map (V.int .i64))),(6,.it 2),(7,.sl 3 0 S.length),(8,.ptr 4 0 0),(9,.int .i64 i)],
      [some (.row 1 (R.map AY)),some (.row 2 [.agg [.nils,.nils]]),some (H3 (fun x:Int=>Value.int .i64 x) M),some (.row 1 (S.map (V.int .i64))),some (.row 2 [.agg [.sl 0 0 R.length,.sl 5 0 G.length]]),some (.row 1 (G.map V.bool))]⟩)
    (fun (i,S,M,R,G)=>i≤S.length∧OInv (D3 n N) (DG F) (n+1) (D4 A) S M R.flatten∧R.length=i∧(∀r∈R,r.length=8)∧G=(S.take i).map fun s=>DW (DG F) s.toNat) (fun (i,_)=>n+2 - i) (0,[0],[(ci A 0,0)],[],[]) hE ?_ ?_ ⟨Nat.zero_le _,by rw [←hA0];exact OInv.start hA (by omega) (by omega),rfl,fun r hr=>by simp at hr,rfl⟩ ?_
  . kernel_rfl
  . refine AO 0 (z:=2) (els:=[Cb N F]) rfl ⟨⟨trivial,trivial,trivial⟩,trivial⟩ (CY 4 0 1 rfl rfl (CY 4 1 1 rfl rfl (AU [1,2,3,4,6,7,8,9] ?_)))
    conv=>whnf
    rfl
  rintro ⟨i,S,M,R,G⟩ ⟨hi,hO,hR,hR8,hG⟩
  have hSb:=hO.bound
  have hSm:(S.map (V.int .i64)).length=S.length:=by simp
  have hRm:(R.map AY).length=R.length:=by simp
  have hGm:(G.map V.bool).length=G.length:=by simp
  have hGl:G.length=i:=by rw [hG];simp;omega
  have hfl:R.flatten.length=8*i:=by
    rw [←hR]
    clear hO hR hG hRm
    induction R with
    | nil=>rfl
    | cons r R ih=>
      have e:=ih (fun q hq=>hR8 q (by simp [hq]))
      have e8:=hR8 r (by simp)
      rw [List.flatten_cons,List.length_append,e,e8,List.length_cons]
      omega
  by_cases hlt:i < S.length
  . obtain ⟨s,hs⟩:∃s,S[i]?=some s:=⟨_,List.getElem?_eq_getElem hlt⟩
    obtain ⟨hs0,hs1⟩:=Zx hNl hFl hO s (List.mem_of_getElem? hs)
    have hsn:s.toNat < n:=by omega
    obtain ⟨row,hrow⟩:∃x,N[s.toNat]?=some x:=⟨_,List.getElem?_eq_getElem (by omega)⟩
    obtain ⟨h8,hxs⟩:=hWF.rows row (List.mem_of_getElem? hrow)
    obtain ⟨a0,a1,a2,a3,a4,a5,a6,a7,rfl⟩:=J7 h8
    have g1:(S.map (V.int .i64))[0+Int.toNat (i:Int)]?=some (.int .i64 s):=by rw [Nat.zero_add,Int.toNat_natCast,List.getElem?_map,hs];rfl
    have g2:(N.map A9)[Int.toNat s]?=some (A9 [a0,a1,a2,a3,a4,a5,a6,a7]):=by rw [List.getElem?_map,hrow];rfl
    conv=>whnf
    repeat' (first|(refine AN (by first|assumption|omega) ?_;conv=>whnf)|(refine Af (by first|assumption|omega) ?_;conv=>whnf)|(refine AQ (by assumption) ?_;conv=>whnf)|(refine BW hE ?_ ?_;decide +kernel;conv=>whnf)|(intro hlen;conv=>whnf))
    refine Ae (fun ((c,S,M,row):Nat×List Int×List (Int×Int)×List Int)=>⟨117,[(1,.rp [.lst (N.map A9),.lst (F.map V.bool)]),(2,.ptr 1 0 0),(3,.int .i64 0),(4,.lst (A.map (V.int .i64))),(6,.it 2),(7,.sl 3 0 S.length),(8,.ptr 4 0 0),(9,.int .i64 i),(10,.sl 6 0 row.length),(47,A9 [a0,a1,a2,a3,a4,a5,a6,a7]),(48,.int .i64 c)],
        [some (.row 1 (R.map AY)),some (.row 2 [.agg [.nils,.nils]]),some (H3 (fun x:Int=>Value.int .i64 x) M),some (.row 1 (S.map (V.int .i64))),some (.row 2 [.agg [.sl 0 0 R.length,.sl 5 0 G.length]]),some (.row 1 (G.map V.bool)),some (.row 1 (row.map (V.int .i64)))]⟩)
      (fun (c,S,M,row)=>c≤8∧row.length=8∧S[i]?=some s∧OInv (D3 n N) (DG F) (n+1) (D4 A) S M (R.flatten++row.take c)∧G=(S.take i).map fun s=>DW (DG F) s.toNat) (fun (c,_)=>8 - c) (0,S,M,List.replicate 8 0) hE ?_ ?_ ⟨Nat.zero_le _,by simp,hs,by rw [List.take_zero,List.append_nil];exact hO,hG⟩ ?_
    . kernel_rfl
    . refine AU [1,2,3,4,6,7,8,9,10,47,48] ?_
      conv=>whnf
      rfl
    clear hO hs hG hSm hSb hlt hi g1
    rintro ⟨c,S,M,row⟩ ⟨hc,hrl,hs,hO,hG⟩
    have hSb:=hO.bound
    have hSm:(S.map (V.int .i64)).length=S.length:=by simp
    have hlt:i < S.length:=(List.getElem?_eq_some_iff.1 hs).1
    have hrm:(row.map (V.int .i64)).length=row.length:=by simp
    by_cases hc8:c < 8
    . obtain ⟨row',x,hrow',_,hxc,hx0,hxn,ex⟩:=hWF.get hsn hc8
      rw [hrow] at hrow'
      cases hrow'
      have hWl:(R.flatten++row.take c).length=8*i+c:=by simp [hfl,hrl];omega
      have hsn':∀v:Int,R.flatten++(row.set c v).take (c+1)=R.flatten++row.take c++[v]:=fun v=>by
        rw [List.append_assoc,List.take_add_one,List.take_set_of_le (Nat.le_refl c),List.getElem?_set_self (by omega)]
        rfl
      have hls:∀v:Int,(row.set c v).length=row.length:=fun v=>List.length_set
      obtain ⟨y,hy⟩:∃y,row[c]?=some y:=⟨_,List.getElem?_eq_getElem (by omega)⟩
      have g4:(row.map (V.int .i64))[0+Int.toNat (c:Int)]?=some (.int .i64 y):=by rw [Nat.zero_add,Int.toNat_natCast,List.getElem?_map,hy];rfl
      have g5:((row.map (V.int .i64)).set (0+Int.toNat (c:Int)) (.int .i64 (-1)))[0+Int.toNat (c:Int)]?=some (.int .i64 (-1)):=by rw [List.getElem?_set_self (by rw [Nat.zero_add,Int.toNat_natCast,hrm];omega)]
      by_cases hneg:x < 0
      . have hput:=hO.dead hWF.wf hA hs hWl hc8 ex (by rw [ce hAl ⟨hx0,hxn⟩,if_pos hneg];omega)
        rw [←hsn'] at hput
        clear ex hO hWl hsn'
        obtain rfl|rfl|rfl|rfl|rfl|rfl|rfl|rfl:c=0∨c=1∨c=2∨c=3∨c=4∨c=5∨c=6∨c=7:=by omega
        all_goals simp only [List.getElem?_cons_zero,List.getElem?_cons_succ,Option.some.injEq] at hxc
        all_goals subst hxc
        all_goals
          conv=>whnf
          repeat' (first|(refine AN (by first|assumption|omega) ?_;conv=>whnf)|(refine Af (by first|assumption|omega) ?_;conv=>whnf)|(refine AS (by omega) ?_;conv=>whnf)|(refine AQ (by assumption) ?_;conv=>whnf))
          refine AJ [1,2,3,4,6,7,8,9,10,47,48] (_+1,S,M,row.set _ (-1)) ⟨?_,?_,hs,hput,hG⟩ ?_ ?_
          . omega
          . rw [List.length_set];exact hrl
          . show 8 - _ < 8 - _;omega
          conv=>whnf
          rw [Nat.zero_add,Int.toNat_natCast,←List.map_set]
          rw [←hls (-1)]
          rfl
      have hxt:x.toNat < n:=by omega
      have eup:Xj n x=x:=by unfold Xj;rw [if_neg hneg]
      have hcx:ci (D4 A) x.toNat=ci A x.toNat:=JW hAl hxt
      rw [eup] at ex
      have g3:(A.map (V.int .i64))[Int.toNat x]?=some (.int .i64 (ci A x.toNat)):=by rw [List.getElem?_map,EE hAl hxt];rfl
      by_cases hd:ci A x.toNat < 0
      . have hput:=hO.dead hWF.wf hA hs hWl hc8 ex (by omega)
        rw [←hsn'] at hput
        clear ex hO hWl hsn'
        obtain rfl|rfl|rfl|rfl|rfl|rfl|rfl|rfl:c=0∨c=1∨c=2∨c=3∨c=4∨c=5∨c=6∨c=7:=by omega
        all_goals simp only [List.getElem?_cons_zero,List.getElem?_cons_succ,Option.some.injEq] at hxc
        all_goals subst hxc
        all_goals
          conv=>whnf
          repeat' (first|(refine AN (by first|assumption|omega) ?_;conv=>whnf)|(refine AM (by first|assumption|omega) ?_;conv=>whnf)|(refine Af (by first|assumption|omega) ?_;conv=>whnf)|(refine AS (by omega) ?_;conv=>whnf)|(refine AQ (by assumption) ?_;conv=>whnf))
          refine AJ [1,2,3,4,6,7,8,9,10,47,48] (_+1,S,M,row.set _ (-1)) ⟨?_,?_,hs,hput,hG⟩ ?_ ?_
          . omega
          . rw [List.length_set];exact hrl
          . show 8 - _ < 8 - _;omega
          conv=>whnf
          rw [Nat.zero_add,Int.toNat_natCast,←List.map_set]
          rw [←hls (-1)]
          rfl
      . cases hl:Az (ci A x.toNat) M with
        | some v=>
          have hput:=hO.known hWF.wf hA hs hWl hc8 ex (by rw [hcx];exact hl)
          rw [←hsn'] at hput
          clear ex hO hWl hsn'
          obtain rfl|rfl|rfl|rfl|rfl|rfl|rfl|rfl:c=0∨c=1∨c=2∨c=3∨c=4∨c=5∨c=6∨c=7:=by omega
          all_goals simp only [List.getElem?_cons_zero,List.getElem?_cons_succ,Option.some.injEq] at hxc
          all_goals subst hxc
          all_goals
            conv=>whnf
            repeat' (first|(refine AN (by first|assumption|omega) ?_;conv=>whnf)|(refine AM (by first|assumption|omega) ?_;conv=>whnf)|(refine Af (by first|assumption|omega) ?_;conv=>whnf)|(refine AS (by omega) ?_;conv=>whnf)|(refine AQ (by assumption) ?_;conv=>whnf)|(refine Ep (kV:=fun x:Int=>Value.int .i64 x) (kA:=fun x=>V.int .i64 x) (by rw [hC];exact Om) 2 M _ v rfl rfl rfl hl ?_;conv=>whnf))
            refine AJ [1,2,3,4,6,7,8,9,10,47,48] (_+1,S,M,row.set _ v) ⟨?_,?_,hs,hput,hG⟩ ?_ ?_
            . omega
            . rw [List.length_set];exact hrl
            . show 8 - _ < 8 - _;omega
            conv=>whnf
            rw [Nat.zero_add,Int.toNat_natCast,List.set_set,←List.map_set]
            rw [←hls v]
            rfl
        | none=>
          have hput:=hO.new hWF.wf hA hs hWl hc8 (by omega) ex (by omega) (by rw [hcx];exact hl)
          rw [hcx] at hput
          rw [←hsn'] at hput
          have hG':G=((S++[x]).take i).map fun s=>DW (DG F) s.toNat:=by rw [List.take_append_of_le_length (by omega)];exact hG
          have hs':(S++[x])[i]?=some s:=FH hs
          have g7:(AK 3 ((row.map (V.int .i64)).set (0+Int.toNat (c:Int)) (.int .i64 (-1))))[0+Int.toNat (c:Int)]?=some (.int .i64 (-1)):=by rw [←List.map_set,AA _ (AE _),List.map_set];exact g5
          clear ex hO hWl hsn'
          obtain rfl|rfl|rfl|rfl|rfl|rfl|rfl|rfl:c=0∨c=1∨c=2∨c=3∨c=4∨c=5∨c=6∨c=7:=by omega
          all_goals simp only [List.getElem?_cons_zero,List.getElem?_cons_succ,Option.some.injEq] at hxc
          all_goals subst hxc
          all_goals
            conv=>whnf
            repeat' (first|(refine AN (by first|assumption|omega) ?_;conv=>whnf)|(refine AM (by first|assumption|omega) ?_;conv=>whnf)|(refine Af (by first|assumption|omega) ?_;conv=>whnf)|(refine AS (by omega) ?_;conv=>whnf)|(refine AQ (by assumption) ?_;conv=>whnf)|(refine Eq (kV:=fun x:Int=>Value.int .i64 x) (kA:=fun x=>V.int .i64 x) (by rw [hC];exact Om) 2 M _ rfl rfl rfl hl ?_;conv=>whnf)|(refine Ic (kV:=fun x:Int=>Value.int .i64 x) (kA:=fun x=>V.int .i64 x) (by rw [hC];exact Om) 2 M _ S.length rfl rfl rfl rfl hl ?_;conv=>whnf)|(refine Af (Nat.le_refl 1) ?_;conv=>whnf)|(refine Af ⟨?_,?_,?_⟩ ?_;(simp<;>omega);(show _+1≤9223372036854775807;omega);(show (_+1)*_≤140737488355328;omega);conv=>whnf)|(intro hlen;conv=>whnf))
            refine AL [1,2,3,4,6,7,8,9,10,47,48] [7] (_+1,S++[_],M++[(_,(S.length:Int))],row.set _ (S.length:Int)) ⟨?_,?_,hs',hput,hG'⟩ ?_ ?_
            . omega
            . rw [List.length_set];exact hrl
            . show 8 - _ < 8 - _;omega
            conv=>whnf
            rw [KT,KU]
            simp only [Nat.zero_add,Int.toNat_natCast,←List.map_set,AA _ (AE _),AA _ (Id _),AA _ (A3 _),List.set_set]
            rw [←hls (S.length:Int)]
            rfl
    . obtain rfl:c=8:=by omega
      rw [List.take_of_length_le (by omega)] at hO
      have g1:(S.map (V.int .i64))[0+Int.toNat (i:Int)]?=some (.int .i64 s):=by rw [Nat.zero_add,Int.toNat_natCast,List.getElem?_map,hs];rfl
      have g1':(AK 0 (S.map (V.int .i64)))[0+Int.toNat (i:Int)]?=some (.int .i64 s):=by rw [AA _ (AE _)];exact g1
      have g6:(F.map V.bool)[Int.toNat s]?=some (.bool (DW (DG F) s.toNat)):=by rw [List.getElem?_map,hWF.fin hsn];rfl
      have hO':OInv (D3 n N) (DG F) (n+1) (D4 A) S M (R++[row]).flatten:=by rw [List.flatten_append,List.flatten_cons,List.flatten_nil,List.append_nil];exact hO
      have hR8':∀r∈R++[row],r.length=8:=fun r hr=>by
        rcases List.mem_append.1 hr with hr|hr
        . exact hR8 r hr
        . simp at hr;subst hr;exact hrl
      have hG':G++[DW (DG F) s.toNat]=(S.take (i+1)).map fun s=>DW (DG F) s.toNat:=by
        rw [hG,List.take_add_one,hs,List.map_append]
        rfl
      generalize DW (DG F) s.toNat=b at g6 hG'
      obtain ⟨r0,r1,r2,r3,r4,r5,r6,r7,rfl⟩:=J7 hrl
      cases b
      all_goals
        conv=>whnf
        repeat' (first|(refine AM (by first|assumption|omega) ?_;conv=>whnf)|(refine Af (by first|assumption|omega) ?_;conv=>whnf)|(refine AS (by omega) ?_;conv=>whnf)|(refine AQ (by assumption) ?_;conv=>whnf)|(refine Dg hE ⟨2,[(0,none),(1,none),(2,none),(5,none),(6,none),(7,none),(8,none),(9,none),(10,none),(11,none),(12,none),(13,none),(14,none),(3,some 0),(15,some 1)],some 4,[5,6,7,8,9,10,11,12,13,14,15],[[],[6],[5,6],[15],[6,15],[5,6,15],[14,15],[6,14,15],[5,6,14,15],[13,14,15],[6,13,14,15],[5,6,13,14,15],[8,13,14,15],[6,8,13,14,15],[5,6,8,13,14,15],[7,8,13,14,15],[6,7,8,13,14,15],[5,6,7,8,13,14,15],[12,13,14,15],[6,12,13,14,15],[5,6,12,13,14,15],[8,12,13,14,15],[6,8,12,13,14,15],[5,6,8,12,13,14,15],[7,8,12,13,14,15],[6,7,8,12,13,14,15],[5,6,7,8,12,13,14,15],[11,12,13,14,15],[6,11,12,13,14,15],[5,6,11,12,13,14,15],[8,11,12,13,14,15],[6,8,11,12,13,14,15],[5,6,8,11,12,13,14,15],[7,8,11,12,13,14,15],[6,7,8,11,12,13,14,15],[5,6,7,8,11,12,13,14,15],[9,11,12,13,14,15],[6,9,11,12,13,14,15],[5,6,9,11,12,13,14,15],[8,9,11,12,13,14,15],[6,8,9,11,12,13,14,15],[5,6,8,9,11,12,13,14,15],[7,8,9,11,12,13,14,15],[6,7,8,9,11,12,13,14,15],[5,6,7,8,9,11,12,13,14,15],[10,11,12,13,14,15],[6,10,11,12,13,14,15],[5,6,10,11,12,13,14,15],[8,10,11,12,13,14,15],[6,8,10,11,12,13,14,15],[5,6,8,10,11,12,13,14,15],[7,8,10,11,12,13,14,15],[6,7,8,10,11,12,13,14,15],[5,6,7,8,10,11,12,13,14,15],[9,10,11,12,13,14,15],[6,9,10,11,12,13,14,15],[5,6,9,10,11,12,13,14,15],[8,9,10,11,12,13,14,15],[6,8,9,10,11,12,13,14,15],[5,6,8,9,10,11,12,13,14,15],[7,8,9,10,11,12,13,14,15],[6,7,8,9,10,11,12,13,14,15],[5,6,7,8,9,10,11,12,13,14,15]],[]⟩ [⟨1,[(17,none)],some 16,[17],[[],[17]],[(15,0)]⟩,⟨0,[],some 18,[],[[]],[]⟩,⟨0,[(19,none)],some 20,[],[[]],[]⟩] [[],[15]] [5,6,7,8,9,10,11,12,13,14] 4 ?_ ?_;decide +kernel;conv=>whnf)|(refine EqL.mk rfl rfl)|(refine Af (Nat.le_refl 1) ?_;conv=>whnf)|(refine Af ⟨?_,?_,?_⟩ ?_;(simp [AT]<;>omega);(show _+1≤9223372036854775807;omega);(show (_+1)*_≤140737488355328;omega);conv=>whnf)|(refine Cy ?_;conv=>whnf)|(refine JD ?_ ?_<;>conv=>whnf))
        all_goals
          refine AO 6 (z:=1) (els:=[r0,r1,r2,r3,r4,r5,r6,r7].map (V.int .i64)) rfl ⟨trivial,trivial,trivial,trivial,trivial,trivial,trivial,trivial,trivial⟩ (AL [1,2,3,4,6,7,8,9] [7,8,9] (i+1,S,M,R++[[r0,r1,r2,r3,r4,r5,r6,r7]],G++[_]) ⟨by omega,hO',by rw [List.length_append,hR];rfl,hR8',hG'⟩ ?_ ?_)
          . show n+2 - (i+1) < n+2 - i
            omega
          conv=>whnf
          simp only [AA _ (Id _),AA _ (Fz _),AA _ (AE _),Lj,Ng,e1,e2,AZ _ _ (Id _),AZ _ _ (Fz _),AZ _ _ (AE _),List.map_append,List.length_append]
          rfl
  . obtain rfl:i=S.length:=by omega
    have hcan:=hO.canon (G:=G) hR hR8 (by rw [hG,List.take_length])
    conv=>whnf
    repeat' (first|(refine AM (by first|assumption|omega) ?_;conv=>whnf)|(refine Ca (Nf 1 2 3 0 5 (y:=.int .i64 0) (za:=1) (zb:=1) (la:=R.map AY) (lb:=G.map V.bool) rfl rfl rfl rfl (by decide) (by decide) (by decide) (Id R) (A3 G) hRm.symm hGm.symm (by decide) rfl rfl (AP (AH hE ?_)));conv=>whnf)|(refine He (fun h=>?_) (fun h=>?_)<;>conv=>whnf)|(refine AH hE ?_;conv=>whnf)|(intro hlen;conv=>whnf))
    . exact ⟨rfl,.inr ⟨R,G,hcan,by rw [if_neg (by omega)]⟩⟩
    . exact ⟨rfl,.inr ⟨R,G,hcan,by rw [if_pos (by omega)]⟩⟩
end Go.Proofs.YtkaiffheakalmaaGreatDoor
