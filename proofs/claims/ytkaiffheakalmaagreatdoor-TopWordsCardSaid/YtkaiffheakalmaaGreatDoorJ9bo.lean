/- Joined. No conditions. -/
import Derived.Test.YtkaiffheakalmaaGreatDoorJ9bn
set_option linter.unusedSimpArgs false
set_option linter.unusedVariables false
set_option maxRecDepth 100000
namespace Go.Proofs.YtkaiffheakalmaaGreatDoor
open Go.RowKit
def QO (l:List Ty):Nat→Int
 | 0=>-1
 | k+1=>if (l.map Ty.name)[k]?=some [] then (k:Int) else QO l k
theorem XU (l:List Ty):Fn1 Tryz.prog 36 [.lst (l.map Cy)] (fun r=>r= .int .i64 (QO l l.length)):=by
 have hlm:(l.map Cy).length=l.length:=by simp
 refine Ax Tryz.func36 fun C hC hE=>?_
 conv=>whnf
 repeat' intro hlen<;>conv=>whnf
 refine Ab (fun k:Nat=>⟨19,[(3,.int .i64 (QO l k)),(6,.lst (l.map Cy)),(7,.int .i64 (l.map Cy).length),(8,.int .i64 k)],[]⟩) (fun k=>k≤l.length) (fun k=>l.length - k) 0 hE ?_ (Nat.zero_le _) ?_
 ·exact AP [3,6,7,8] rfl
 intro k hk
 by_cases hlt:k < l.length
 ·obtain ⟨⟨a,b,c⟩,hx⟩:∃x,l[k]?=some x:=⟨_,List.getElem?_eq_getElem hlt⟩
  have gx:(l.map Cy)[k]?=some (.agg [.str a,.str b,.lst (c.map V.str)]):=by rw [List.getElem?_map,hx];rfl
  have hn:(l.map Ty.name)[k]?=some a:=by rw [List.getElem?_map,hx];rfl
  by_cases ha:a=[]
  ·have hs:QO l (k+1)=k:=by unfold QO;rw [hn,ha,if_pos rfl]
   conv=>whnf
   repeat' (first|refine A2 ?_|refine AO ?_|refine AV ?_|refine Ad ?_)<;>conv=>whnf
   all_goals first
    | (refine AM [3,6,7,8] [0] (k+1) hlt (by omega) ?_
       conv=>whnf
       rw [hs]
       rfl)
    | (exfalso;simp_all;done)
    | trace_state
  ·have hs:QO l (k+1)=QO l k:=by
    show (if (l.map Ty.name)[k]?=some [] then (k:Int) else QO l k)=_
    rw [hn,if_neg (fun e=>ha (by simpa using e))]
   conv=>whnf
   repeat' (first|refine A2 ?_|refine A1 ?_|refine AO ?_|refine AV ?_|refine Ad ?_)<;>conv=>whnf
   all_goals first
    | (exfalso;simp_all;done)
    | (refine AM [3,6,7,8] [0] (k+1) hlt (by omega) ?_
       conv=>whnf
       rw [hs]
       rfl)
    | trace_state
 ·obtain rfl:k=l.length:=by omega
  conv=>whnf
  repeat' (first|refine A1 ?_|refine AC hE ?_)<;>conv=>whnf
  all_goals exact ⟨rfl,rfl⟩
def ib:List (List UInt8):=[[100,111,99],[112],[104,49],[117,108],[108,105],[101,109]]
set_option maxHeartbeats 4000000 in
theorem EB (nm c:List UInt8) (a:List (List UInt8)) (h:nm∈ib):Fn1 Tryz.prog 33 [.agg [.str nm,.str c,.lst (a.map V.str)]] (fun r=>r= .bool true):=by
 have h6:nm=[100,111,99]∨nm=[112]∨nm=[104,49]∨nm=[117,108]∨nm=[108,105]∨nm=[101,109]:=by simpa [ib] using h
 rcases h6 with rfl|rfl|rfl|rfl|rfl|rfl
 all_goals
  refine Ax Tryz.func33 fun C hC hE=>?_
  conv=>whnf
  repeat' (first|refine GV (fun h=>?_) (fun h=>?_)|refine AC hE ?_|intro hlen)<;>conv=>whnf
  all_goals first|exact ⟨rfl,rfl⟩|(exfalso;simp_all;done)|trace_state
theorem XL:Fn1 Tryz.prog 33 [.agg [.str [],.str [],.lst (([]:List (List UInt8)).map V.str)]] (fun r=>r= .bool true):=by
 refine Ax Tryz.func33 fun C hC hE=>?_
 conv=>whnf
 repeat' (first|refine A2 ?_|refine A1 ?_|refine GV (fun h=>?_) (fun h=>?_)|refine AC hE ?_|intro hlen)<;>conv=>whnf
 all_goals first|exact ⟨rfl,rfl⟩|(exfalso;revert h;decide)|(exfalso;clear hE hC;simp at h;done)|trace_state
theorem QR (l:List Ty) (h:FuncId) (caps:List V) (p:Ty→Bool) (hb:AB Tryz.prog h=true) (hc:Fa caps=true) (hp:∀a∈l,Fn1 Tryz.prog h (Cy a::caps) (fun r=>r= .bool (p a))):
 Fn1 Tryz.prog 64 [.lst (l.map Cy),.fn h caps] (fun r=>r= .int .i64 (GH p l)):=by
 refine Ax Tryz.func64 fun C hC hE=>?_
 conv=>whnf
 intro hl
 conv=>whnf
 refine Ab (fun k:Nat=>⟨19,[(0,.lst (l.map Cy)),(1,.fn h caps),(7,.int .i64 (l.map Cy).length),(8,.int .i64 k)],[]⟩) (fun k=>k≤l.length∧∀j < k,∀x,l[j]?=some x→p x=false) (fun k=>l.length - k) 0 hE ?_ ?_ ?_
 ·exact AP [0,1,7,8] rfl
 ·exact ⟨Nat.zero_le _,fun j hj=>by omega⟩
 intro k hkj
 obtain ⟨hk,hj⟩:=hkj
 have hlm:(l.map Cy).length=l.length:=by simp
 by_cases hlt:k < l.length
 ·obtain ⟨x,hx⟩:∃x,l[k]?=some x:=⟨_,List.getElem?_eq_getElem hlt⟩
  have hpx:=hp x (List.mem_of_getElem? hx)
  conv=>whnf
  repeat' (first|refine A2 ?_|refine AO ?_|refine AV ?_|refine Hk ?_|(refine CX hpx hC hb ?_ ?_ ?_;kernel_rfl;exact GG (by kernel_rfl) hc)|refine br (fun h=>?_) (fun h=>?_)|refine AC hE ?_)<;>conv=>whnf
  ·exact ⟨rfl,by rw [D7 hx (by assumption) hj]⟩
  ·refine AD [0,1,7,8] (k+1) ⟨hlt,?_⟩ (by omega) rfl
   intro j hjk y hy
   by_cases e:j=k
   ·subst e;rw [hx] at hy;cases hy;assumption
   ·exact hj j (by omega) y hy
 ·conv=>whnf
  repeat' (first|refine A1 ?_|refine AC hE ?_)<;>conv=>whnf
  exact ⟨rfl,by rw [DW (fun x hx=>by obtain ⟨j,hj'⟩:=List.mem_iff_getElem?.1 hx;exact hj j (by have:=(List.getElem?_eq_some_iff.1 hj').1;omega) x hj')]⟩
theorem LK (l:List Ty) (h:FuncId) (caps:List V) (p:Ty→Bool) (hb:AB Tryz.prog h=true) (hc:Fa caps=true) (hp:∀a∈l,Fn1 Tryz.prog h (Cy a::caps) (fun r=>r= .bool (p a))):
 Fn1 Tryz.prog 31 [.lst (l.map Cy),.fn h caps] (fun r=>r= .bool (l.any p)):=by
 have hi:=QR l h caps p hb hc hp
 have ha:=D8 p l
 refine Ax Tryz.func31 fun C hC hE=>?_
 conv=>whnf
 repeat' (first|(refine CX hi hC Uf ?_ ?_ ?_;kernel_rfl;exact KA rfl hc)|refine GV (fun h=>?_) (fun h=>?_)|refine AC hE ?_)<;>conv=>whnf
 all_goals exact ⟨rfl,by rw [←ha];congr 1;first|exact (decide_eq_true (by assumption)).symm|exact (decide_eq_false (by assumption)).symm⟩
theorem H5:∀l:List Mc,BT (l.map BB)
 | []=>trivial
 | _::l=>⟨⟨trivial,trivial,trivial⟩,H5 l⟩
theorem SL (l:List Ty):∀y∈l.map Cy,y.cells.length=3:=fun y hy=>by
 obtain ⟨x,_,rfl⟩:=List.mem_map.1 hy
 rfl
theorem j3 (u t:Ty):Fn1 Tryz.prog 32 [Cy u,.rp [.str t.name,.str t.content,.lst (t.attrs.map V.str)]] (fun r=>r= .bool (decide (u.name=t.name))):=by
 unfold Cy
 refine Ax Tryz.func32 fun C hC hE=>?_
 conv=>whnf
 repeat' (first|refine GV (fun h=>?_) (fun h=>?_)|refine AC hE ?_)<;>conv=>whnf
 ·exact ⟨rfl,by rw [decide_eq_true (by assumption)]⟩
 ·exact ⟨rfl,by rw [decide_eq_false (by assumption)]⟩
theorem j4 (n:Int):Fn1 Tryz.prog 38 [.int .i64 n] (fun r=>r= .bool (decide (n=0∨150 < n))):=by
 refine Ax Tryz.func38 fun C hC hE=>?_
 conv=>whnf
 repeat' (first|refine GV (fun h=>?_) (fun h=>?_)|refine AC hE ?_)<;>conv=>whnf
 ·exact ⟨rfl,by rw [decide_eq_true (by omega)]⟩
 ·exact ⟨rfl,by rw [decide_eq_true (by omega)]⟩
 ·exact ⟨rfl,by rw [decide_eq_false (by omega)]⟩
set_option maxHeartbeats 16000000 in
theorem aK (l:List Ty) (ms:List Mc) (hlm:ms.length=l.length) (h1:1≤l.length) (hl:l.length≤8) (hname:∀t∈l,t.name=[]∨FP t.name=true) (hdist:(l.map Ty.name).Nodup)
 (hform:∀t∈l,Fn1 Tryz.prog 33 [Cy t] (fun r=>r= .bool true)) (hattr:∀t∈l,t.attrs.length≤4∧(∀s∈t.attrs,FP s=true)∧t.attrs.Nodup)
 (hmach:∀(i:Nat) (t:Ty) (m:Mc),l[i]?=some t→ms[i]?=some m→Fn1G Tryz.prog GT 35 [.str t.content,.int .i64 (l.map Cy).length,.int .i64 (QO l l.length)] (fun r=>r= .tup [BB m,.int .i64 0]))
 (R:Nat) (hR:R≤100) (hend:(H3 (Co l ms) R (List.replicate l.length 0)).2=false) (hgo:∀k,k < R→(H3 (Co l ms) k (List.replicate l.length 0)).2=true)
 (hok:∀k,k < R→∀i m,ms[i]?=some m→NK (Jk (Co l ms) i (H3 (Co l ms) k (List.replicate l.length 0)).1).1 m=true) (hbd:∀k,k < R→∀i m,ms[i]?=some m→∀x∈O5 (Jk (Co l ms) i (H3 (Co l ms) k (List.replicate l.length 0)).1).1 m,x≤1000000)
 (hsz:∀x∈(H3 (Co l ms) R (List.replicate l.length 0)).1,x≠0∧x≤150):
 Fn1G Tryz.prog GT 16 [.lst (l.map Cy)] (fun r=>r= .tup [.rp [.lst (l.map Cy),.lst (ms.map BB),AL (H3 (Co l ms) R (List.replicate l.length 0)).1],.int .i64 0]):=by
 have hlM:(l.map Cy).length=l.length:=by simp
 have hmM:(ms.map BB).length=ms.length:=by simp
 have hms:=XW l ms hlm hl R hR hend hgo hok hbd
 generalize (H3 (Co l ms) R (List.replicate l.length 0)).1=ZZ at*
 refine GN Tryz.func16 fun C hC hW hG hE=>?_
 conv=>whnf
 repeat' (first|refine A1 ?_|intro hlen)<;>conv=>whnf
 refine Ab (fun j:Nat=>⟨86,[(0,.lst (l.map Cy)),(4,.ptr 0 0 0),(21,.lst (l.map Cy)),(22,.int .i64 (l.map Cy).length),(23,.int .i64 j)],[some (.row 3 [.agg [.lst (l.map Cy),.sl 1 0 j,.nils]]),some (.row 2 ((ms.take j).map BB))]⟩) (fun j=>j≤l.length) (fun j=>l.length - j) 0 hE ?_ (Nat.zero_le _) ?_
 ·refine Cw 0 1 2 rfl rfl (AP [0,4,21,22,23] ?_)
  conv=>whnf
  rfl
 intro j hj
 by_cases hlt:j < l.length
 ·obtain ⟨t,ht⟩:∃t,l[j]?=some t:=⟨_,List.getElem?_eq_getElem hlt⟩
  obtain ⟨m,hmm⟩:∃m,ms[j]?=some m:=⟨_,List.getElem?_eq_getElem (by omega)⟩
  have htm:=List.mem_of_getElem? ht
  have htd:List.take j (List.drop 0 ((ms.take j).map BB))=(ms.take j).map BB:=by rw [List.drop_zero,List.take_of_length_le (by rw [List.length_map,List.length_take];omega)]
  have hts:(ms.take (j+1)).map BB=(ms.take j).map BB++[BB m]:=by rw [List.take_add_one,hmm,List.map_append];rfl
  have htk:((ms.take j).map BB).length=j:=by rw [List.length_map,List.length_take];omega
  have gt:(l.map Cy)[j]?=some (Cy t):=by rw [List.getElem?_map,ht];rfl
  have hfo:=hform t htm
  obtain ⟨ha1,ha2,ha3⟩:=hattr t htm
  have hat:=T1 t.attrs ha1 ha2 ha3
  have hla:=XU l
  have hma:=(hmach j t m ht hmm).c hC hW CD hG
  have hnm:=hname t htm
  have hen:=Ov t.name
  have hcf:=LK (l.take j) 32 [.rp [.str t.name,.str t.content,.lst (t.attrs.map V.str)]] (fun u=>decide (u.name=t.name)) (by kernel_rfl) rfl (fun u _=>j3 u t)
  have hno:((l.take j).any fun u=>decide (u.name=t.name))=false:=by
   rw [List.any_eq_false]
   intro u hu
   obtain ⟨i,hi⟩:=List.mem_iff_getElem?.1 hu
   rw [List.getElem?_take] at hi
   split at hi
   ·rename_i hij
    simp only [decide_eq_true_eq]
    intro e
    have e1:(l.map Ty.name)[i]?=some u.name:=by rw [List.getElem?_map,hi];rfl
    have e2:(l.map Ty.name)[j]?=some t.name:=by rw [List.getElem?_map,ht];rfl
    have e3:=(List.getElem?_eq_some_iff.1 e1).2
    have e4:=(List.getElem?_eq_some_iff.1 e2).2
    have:=(List.getElem_inj hdist).1 (e3.trans (e.trans e4.symm))
    omega
   ·cases hi
  rw [hno,List.map_take] at hcf
  by_cases hn0:t.name=[]
  ·conv=>whnf
   repeat' (first|refine A2 ?_|refine AO ?_|refine AV ?_|refine Ad ?_|refine ⟨SL l,?_⟩|refine AN hcf hC Na ?_|refine AY (AK 2 (z:=3) (els:=[.agg [.str t.name,.str t.content,.lst (t.attrs.map V.str)]]) rfl ⟨⟨trivial,trivial,trivial,trivial⟩,trivial⟩ (AH ?_))|refine AN hfo hC Nb ?_|refine AN hat hC Nc ?_|refine Dt hla hC Nf ?_|refine V9 hma hC Nd rfl ?_|refine EN (Nat.le_refl 1) ?_|(refine EN ⟨?_,?_,?_⟩ ?_;(simp only [AQ,Ar,htk]<;>omega);(show _+1≤_;omega);(show (_+1)*_≤_;omega))|(refine C1 hE [⟨1,[(0,none),(1,none),(2,none),(3,none),(4,none),(5,none),(6,none),(7,none),(8,none),(9,none),(10,some 0)],some 11,[9],[[],[9]],[]⟩,⟨0,[(12,none)],none,[],[[]],[]⟩] ?_ ?_;decide +kernel)|(refine C1 hE [⟨1,[(0,none),(1,none),(2,none),(3,none),(4,none),(5,none),(6,some 0)],some 7,[0],[[],[0]],[]⟩,⟨0,[(8,none),(9,none)],some 10,[],[[]],[]⟩] ?_ ?_;decide +kernel)|refine By ?_|refine JM ?_ ?_)<;>conv=>whnf
   all_goals
    refine AM [0,4,21,22,23] [2,3,4,5] (j+1) hlt (by omega) ?_
    conv=>whnf
    rw [hts]
    simp only [AX _ _ (H5 _),htd,BH,AA _ (H5 _)]
    rfl
  ·have hnk:FP t.name=true:=hnm.resolve_left hn0
   rw [hnk] at hen
   conv=>whnf
   repeat' (first|refine A2 ?_|refine A1 ?_|refine AO ?_|refine AV ?_|refine Ad ?_|refine AN hen hC NZ ?_|refine ⟨SL l,?_⟩|refine AN hcf hC Na ?_|refine AY (AK 2 (z:=3) (els:=[.agg [.str t.name,.str t.content,.lst (t.attrs.map V.str)]]) rfl ⟨⟨trivial,trivial,trivial,trivial⟩,trivial⟩ (AH ?_))|refine AN hfo hC Nb ?_|refine AN hat hC Nc ?_|refine Dt hla hC Nf ?_|refine V9 hma hC Nd rfl ?_|refine EN (Nat.le_refl 1) ?_|(refine EN ⟨?_,?_,?_⟩ ?_;(simp only [AQ,Ar,htk]<;>omega);(show _+1≤_;omega);(show (_+1)*_≤_;omega))|(refine C1 hE [⟨1,[(0,none),(1,none),(2,none),(3,none),(4,none),(5,none),(6,none),(7,none),(8,none),(9,none),(10,some 0)],some 11,[9],[[],[9]],[]⟩,⟨0,[(12,none)],none,[],[[]],[]⟩] ?_ ?_;decide +kernel)|(refine C1 hE [⟨1,[(0,none),(1,none),(2,none),(3,none),(4,none),(5,none),(6,some 0)],some 7,[0],[[],[0]],[]⟩,⟨0,[(8,none),(9,none)],some 10,[],[[]],[]⟩] ?_ ?_;decide +kernel)|refine By ?_|refine JM ?_ ?_)<;>conv=>whnf
   all_goals
    refine AM [0,4,21,22,23] [2,3,4,5] (j+1) hlt (by omega) ?_
    conv=>whnf
    rw [hts]
    simp only [AX _ _ (H5 _),htd,BH,AA _ (H5 _)]
    rfl
 ·obtain rfl:j=l.length:=by omega
  have htl:ms.take l.length=ms:=List.take_of_length_le (by omega)
  rw [htl]
  conv=>whnf
  repeat' refine A1 ?_<;>conv=>whnf
  refine AY (AK 1 (z:=2) (els:=ms.map BB) rfl (H5 ms) (A0 [some (.row 3 [.agg [.lst (l.map Cy),.lst (ms.map BB),.nils]]),none] ?_ (AH ?_)))
  ·conv=>whnf
   have e1:(V.sl 1 0 l.length).frz 1 (ms.map BB)= .lst (ms.map BB):=B0 1 _ (by omega)
   have fa:∀id els l,(V.agg l).frz id els= .agg (Ai id els l):=fun _ _ _=>by simp only [V.frz]
   have fl:∀id els l,(V.lst l).frz id els= .lst l:=fun _ _ _=>by simp only [V.frz]
   simp only [Ai,fa,e1,fl]
   rfl
  have hcf:=B8 ZZ 38 [] (fun n=>decide (n=0∨150 < n)) (by kernel_rfl) rfl (fun n _=>j4 n)
  have hno:(ZZ.any fun n=>decide (n=0∨150 < n))=false:=by
   rw [List.any_eq_false]
   intro n hn
   have:=hsz n hn
   simp only [decide_eq_true_eq]
   omega
  rw [hno] at hcf
  conv=>whnf
  refine Vc hms hC UV rfl ⟨_,_,rfl,⟨Nat.zero_lt_succ _,rfl⟩,rfl⟩ (fun j o ho=>?_) [] (fun j hj _=>?_) (fun j hj=>by simp at hj) (FK _ trivial) (fun j o ho=>?_) rfl ?_
  ·match j,ho with
   | 0,ho=>cases ho;exact ⟨rfl,Ik ⟨⟨trivial,trivial,trivial,trivial⟩,trivial⟩⟩
   | j+1,ho=>simp at ho
  ·have:j < 1:=hj
   simp;omega
  ·match j,ho with
   | 0,ho=>cases ho;exact Ik ⟨⟨trivial,trivial,trivial,trivial⟩,trivial⟩
   | j+1,ho=>simp at ho
  unfold AL
  conv=>whnf
  repeat' (first|refine AN hcf hC EF ?_|refine DD (AK 0 (z:=3) (els:=[.agg [.lst (l.map Cy),.lst (ms.map BB),.lst (ZZ.map (V.int .i64))]]) rfl ⟨⟨trivial,trivial,trivial,trivial⟩,trivial⟩ (AH (AC hE ?_))))<;>conv=>whnf
  exact ⟨rfl,rfl⟩
theorem UD (ty au:List V) (Z:List Int) (hty:BT ty) (hnew:Fn1G Tryz.prog GT 16 [.lst ty] (fun r=>r= .tup [.rp [.lst ty,.lst au,AL Z],.int .i64 0])):
 Fn1G Tryz.prog GT 8 [.lst ty] (fun r=>r= .tup [AL Z,.int .i64 0]):=by
 refine GN Tryz.func8 fun C hC hW hG hE=>?_
 conv=>whnf
 have hn:=hnew.c hC hW CD hG
 unfold AL at hn ⊢
 repeat' (first|refine A2 ?_|refine EL hn hC NY rfl ?_|refine AC hE ?_)<;>conv=>whnf
 exact ⟨rfl,rfl⟩
inductive StarL (L:List Int→Prop):List Int→Prop
 | nil:StarL L []
 | cons {u v:List Int}:L u→StarL L v→StarL L (u++v)
def He (L M:List Int→Prop) (w:List Int):Prop:=∃u v,w=u++v∧L u∧M v
mutual
def Av:Ex→List Int→Prop
 | .mk k t ps=>if k=1 then fun w=>w=[t] else if k=2 then Bq ps else if k=3 then BU ps else if k=6 then fun w=>w=[]∨BU ps w else if k=5 then He (BU ps) (StarL (BU ps)) else StarL (BU ps)
def Bq:List Ex→List Int→Prop
 | []=>fun w=>w=[]
 | p::ps=>He (Av p) (Bq ps)
def BU:List Ex→List Int→Prop
 | []=>fun _=>False
 | p::ps=>fun w=>Av p w∨BU ps w
end
theorem Z9 (t:Int) (ps:List Ex):Av (.mk 1 t ps)=fun w=>w=[t]:=by rw [Av,if_pos rfl]
theorem aA (t:Int) (ps:List Ex):Av (.mk 2 t ps)=Bq ps:=by rw [Av,if_neg (by decide),if_pos rfl]
theorem aB (t:Int) (ps:List Ex):Av (.mk 3 t ps)=BU ps:=by rw [Av,if_neg (by decide),if_neg (by decide),if_pos rfl]
theorem aC (t:Int) (ps:List Ex):Av (.mk 6 t ps)=fun w=>w=[]∨BU ps w:=by rw [Av,if_neg (by decide),if_neg (by decide),if_neg (by decide),if_pos rfl]
theorem XO (t:Int) (ps:List Ex):Av (.mk 5 t ps)=He (BU ps) (StarL (BU ps)):=by rw [Av,if_neg (by decide),if_neg (by decide),if_neg (by decide),if_neg (by decide),if_pos rfl]
theorem O4 (t:Int) (ps:List Ex):Av (.mk 4 t ps)=StarL (BU ps):=by rw [Av,if_neg (by decide),if_neg (by decide),if_neg (by decide),if_neg (by decide),if_neg (by decide)]
theorem KW (p:Ex):BU [p]=Av p:=by
 funext w
 simp [BU]
theorem XP (ps:List Ex) (p:Ex) (w:List Int):BU (ps++[p]) w↔BU ps w∨Av p w:=by
 induction ps with
 | nil=>simp [BU]
 | cons q ps ih=>simp only [List.cons_append,BU,ih,or_assoc]
theorem XQ (ps:List Ex) (p:Ex) (w:List Int):Bq (ps++[p]) w↔He (Bq ps) (Av p) w:=by
 induction ps generalizing w with
 | nil=>
   simp only [List.nil_append,Bq,He]
   constructor
   ·rintro ⟨u,v,rfl,h,rfl⟩;exact ⟨[],u,by simp,rfl,h⟩
   ·rintro ⟨u,v,rfl,rfl,h⟩;exact ⟨v,[],by simp,h,rfl⟩
 | cons q ps ih=>
   simp only [List.cons_append,Bq]
   constructor
   ·rintro ⟨u,v,rfl,h,h2⟩
    obtain ⟨a,b,rfl,h3,h4⟩:=(ih v).1 h2
    exact ⟨u++a,b,by simp,⟨u,a,rfl,h,h3⟩,h4⟩
   ·rintro ⟨u,v,rfl,⟨a,b,rfl,h1,h2⟩,h3⟩
    exact ⟨a,b++v,by simp,h1,(ih _).2 ⟨b,v,rfl,h2,h3⟩⟩
open Classical in
noncomputable def A3 (L:List Int→Prop) (w:List Int) (f:List Bool):List Bool:=(List.range (w.length+1)).map fun j=>decide (∃i,i≤j∧f.getD i false=true∧L ((w.take j).drop i))
theorem BK (L:List Int→Prop) (w:List Int) (f:List Bool):(A3 L w f).length=w.length+1:=by simp [A3]
theorem Dr {L:List Int→Prop} {w:List Int} {f:List Bool} {j:Nat} (hj:j≤w.length):(A3 L w f).getD j false=true↔∃i,i≤j∧f.getD i false=true∧L ((w.take j).drop i):=by
 unfold A3
 rw [List.getD_eq_getElem?_getD,List.getElem?_map,List.getElem?_range (by omega)]
 simp
theorem XR {a b:List Bool} {n:Nat} (ha:a.length=n) (hb:b.length=n) (h:∀j,j < n→(a.getD j false=true↔b.getD j false=true)):a=b:=by
 refine List.ext_getElem (by omega) fun j h1 h2=>?_
 have:=h j (by omega)
 rw [List.getD_eq_getElem?_getD,List.getD_eq_getElem?_getD,List.getElem?_eq_getElem h1,List.getElem?_eq_getElem h2,Option.getD_some,Option.getD_some] at this
 exact Bool.eq_iff_iff.2 this
theorem H1 {L:List Int→Prop} {w:List Int} {f out:List Bool} (hl:out.length=w.length+1) (h:∀j,j≤w.length→(out.getD j false=true↔∃i,i≤j∧f.getD i false=true∧L ((w.take j).drop i))):out=A3 L w f:=
 XR hl (BK L w f) fun j hj=>by rw [Dr (by omega)];exact h j (by omega)
theorem NG {L M:List Int→Prop} (h:∀w,L w↔M w) (w:List Int) (f:List Bool):A3 L w f=A3 M w f:=by
 have:L=M:=funext fun w=>propext (h w)
 rw [this]
def Ji (a b:List Bool):List Bool:=List.zipWith (· || ·) a b
theorem NH {a b:List Bool} {n:Nat} (ha:a.length=n) (hb:b.length=n):(Ji a b).length=n:=by simp [Ji,ha,hb]
theorem QN {a b:List Bool} {n j:Nat} (ha:a.length=n) (hb:b.length=n):(Ji a b).getD j false=(a.getD j false || b.getD j false):=by
 unfold Ji
 rw [List.getD_eq_getElem?_getD,List.getD_eq_getElem?_getD,List.getD_eq_getElem?_getD,List.getElem?_zipWith]
 by_cases hj:j < n
 ·rw [List.getElem?_eq_getElem (by omega),List.getElem?_eq_getElem (by omega)]
  rfl
 ·rw [List.getElem?_eq_none (by omega),List.getElem?_eq_none (by omega)]
  rfl
theorem Lb {w:List Int} {i j:Nat} (hij:i≤j) (hj:j≤w.length):(w.take j).drop i=[]↔i=j:=by
 rw [←List.length_eq_zero_iff,List.length_drop,List.length_take]
 omega
theorem Lc {w:List Int} {i m j:Nat} (h1:i≤m) (h2:m≤j):(w.take j).drop i=(w.take m).drop i++(w.take j).drop m:=by
 have:w.take m=(w.take j).take m:=by rw [List.take_take,Nat.min_eq_left h2]
 rw [this]
 generalize w.take j=x
 have e:x=x.take m++x.drop m:=(List.take_append_drop m x).symm
 by_cases hm:m≤x.length
 ·conv=>lhs;rw [e]
  rw [List.drop_append_of_le_length (by rw [List.length_take];omega)]
 ·rw [List.take_of_length_le (by omega),List.drop_eq_nil_of_le (by omega:x.length≤m),List.append_nil]
theorem SF {w:List Int} {f:List Bool} (hf:f.length=w.length+1):A3 (fun v=>v=[]) w f=f:=by
 refine (H1 hf fun j hj=>?_).symm
 constructor
 ·intro h;exact ⟨j,Nat.le_refl _,h,(Lb (Nat.le_refl _) hj).2 rfl⟩
 ·rintro ⟨i,hi,h,h2⟩
  rw [Lb hi hj] at h2
  subst h2;exact h
theorem dJ {w:List Int} {f:List Bool}:A3 (fun _=>False) w f=List.replicate (w.length+1) false:=by
 refine (H1 (by simp) fun j hj=>?_).symm
 constructor
 ·intro h
  rw [List.getD_eq_getElem?_getD,List.getElem?_replicate] at h
  split at h<;>simp at h
 ·rintro ⟨_,_,_,h⟩;exact h.elim
theorem Vq (L M:List Int→Prop) {w:List Int} {f:List Bool}:Ji (A3 L w f) (A3 M w f)=A3 (fun v=>L v∨M v) w f:=by
 refine H1 (NH (BK _ _ _) (BK _ _ _)) fun j hj=>?_
 rw [QN (BK _ _ _) (BK _ _ _),Bool.or_eq_true,Dr hj,Dr hj]
 constructor
 ·rintro (⟨i,a,b,c⟩|⟨i,a,b,c⟩)
  ·exact ⟨i,a,b,.inl c⟩
  ·exact ⟨i,a,b,.inr c⟩
 ·rintro ⟨i,a,b,c|c⟩
  ·exact .inl ⟨i,a,b,c⟩
  ·exact .inr ⟨i,a,b,c⟩
theorem SG (L M:List Int→Prop) {w:List Int} {f:List Bool}:A3 M w (A3 L w f)=A3 (He L M) w f:=by
 refine H1 (BK _ _ _) fun j hj=>?_
 rw [Dr hj]
 constructor
 ·rintro ⟨m,hm,h,h2⟩
  rw [Dr (by omega)] at h
  obtain ⟨i,hi,h3,h4⟩:=h
  exact ⟨i,by omega,h3,_,_,Lc hi hm,h4,h2⟩
 ·rintro ⟨i,hi,h,u,v,e,h1,h2⟩
  have hlen:j - i=u.length+v.length:=by
   have:=congrArg List.length e
   rw [List.length_drop,List.length_take,List.length_append,Nat.min_eq_left hj] at this
   exact this
  have e2:=Lc (w:=w) (i:=i) (m:=i+u.length) (j:=j) (by omega) (by omega)
  have hu:((w.take (i+u.length)).drop i).length=u.length:=by rw [List.length_drop,List.length_take];omega
  obtain ⟨hU,hV⟩:=List.append_inj (e2.symm.trans e) hu
  refine ⟨i+u.length,by omega,?_,?_⟩
  ·rw [Dr (by omega)]
   exact ⟨i,by omega,h,by rw [hU];exact h1⟩
  ·rw [hV];exact h2
def XS (t:Int) (w:List Int) (f:List Bool) (k:Nat):Nat→Bool
 | 0=>false
 | i+1=>if i < k then f.getD i false&&decide (w.getD i 0=t) else false
def Hf (t:Int) (w:List Int) (f:List Bool) (k:Nat):List Bool:=(List.range (w.length+1)).map (XS t w f k)
theorem Vr (t:Int) (w:List Int) (f:List Bool) (k:Nat):(Hf t w f k).length=w.length+1:=by simp [Hf]
theorem aD (t:Int) (w:List Int) (f:List Bool):Hf t w f 0=List.replicate (w.length+1) false:=by
 refine List.ext_getElem (by simp [Hf]) fun j h1 h2=>?_
 simp only [Hf,List.getElem_map,List.getElem_range,List.getElem_replicate]
 cases j<;>simp [XS]
theorem aE {t:Int} {w:List Int} {f:List Bool} {k:Nat} {x:Int} {b:Bool} (hx:w[k]?=some x) (hb:f[k]?=some b):Hf t w f (k+1)=(Hf t w f k).set (k+1) (b&&decide (x=t)):=by
 refine List.ext_getElem (by simp [Hf]) fun j h1 h2=>?_
 rw [List.getElem_set]
 simp only [Hf,List.getElem_map,List.getElem_range]
 cases j with
 | zero=>rw [if_neg (by omega)];rfl
 | succ i=>
   by_cases e:k=i
   ·subst e
    simp [XS,List.getD_eq_getElem?_getD,hx,hb]
   ·rw [if_neg (by omega)]
    simp only [XS]
    by_cases h:i < k
    ·rw [if_pos h,if_pos (by omega)]
    ·rw [if_neg h,if_neg (by omega)]
theorem aF (t:Int) (w:List Int) (f:List Bool):Hf t w f w.length=A3 (fun v=>v=[t]) w f:=by
 refine H1 (Vr _ _ _ _) fun j hj=>?_
 have e:(Hf t w f w.length).getD j false=XS t w f w.length j:=by
  unfold Hf
  rw [List.getD_eq_getElem?_getD,List.getElem?_map,List.getElem?_range (by omega)]
  rfl
 rw [e]
 cases j with
 | zero=>
   constructor
   ·intro h;cases h
   ·rintro ⟨i,hi,_,h⟩;simp at h
 | succ i=>
   simp only [XS]
   rw [if_pos (by omega),Bool.and_eq_true,decide_eq_true_iff]
   have hone:(w.take (i+1)).drop i=[w.getD i 0]:=by
    rw [List.take_add_one,List.drop_append_of_le_length (by rw [List.length_take];omega),List.drop_eq_nil_of_le (by rw [List.length_take];omega),List.nil_append]
    rw [List.getD_eq_getElem?_getD,List.getElem?_eq_getElem (by omega)]
    rfl
   constructor
   ·rintro ⟨h1,h2⟩
    exact ⟨i,by omega,h1,by rw [hone,h2]⟩
   ·rintro ⟨m,hm,h1,h2⟩
    have hl:=congrArg List.length h2
    rw [List.length_drop,List.length_take] at hl
    simp at hl
    obtain rfl:m=i:=by omega
    rw [hone] at h2
    exact ⟨h1,by simpa using h2⟩
def N6 (l:List Bool):Nat:=l.count true
theorem aG (l:List Bool):N6 l≤l.length:=List.count_le_length
theorem NI:∀{a b:List Bool},a.length=b.length→Ji a b≠a→N6 a < N6 (Ji a b)
 | [],b,_,h=>by simp [Ji] at h
 | x::a,[],hl,_=>by simp at hl
 | x::a,y::b,hl,h=>by
   have hl':a.length=b.length:=by simpa using hl
   have hle:N6 a≤N6 (Ji a b):=by
    by_cases e:Ji a b=a
    ·rw [e];exact Nat.le_refl _
    ·exact Nat.le_of_lt (NI hl' e)
   have hc:Ji (x::a) (y::b)=(x || y)::Ji a b:=rfl
   rw [hc] at h ⊢
   unfold N6 at hle ⊢
   simp only [List.count_cons]
   cases x with
   | true=>
     have:Ji a b≠a:=fun e=>h (by rw [e];rfl)
     have:=NI hl' this
     unfold N6 at this
     simp
     exact this
   | false=>
     cases y with
     | true=>simp;omega
     | false=>
       have:Ji a b≠a:=fun e=>h (by rw [e];rfl)
       have:=NI hl' this
       unfold N6 at this
       simpa using this
structure StarI (L:List Int→Prop) (w:List Int) (f out:List Bool):Prop where
 len:out.length=w.length+1
 low:∀j,j≤w.length→f.getD j false=true→out.getD j false=true
 high:∀j,j≤w.length→out.getD j false=true→∃i,i≤j∧f.getD i false=true∧StarL L ((w.take j).drop i)
theorem XT {L:List Int→Prop} {u v:List Int} (h:StarL L u) (hv:L v):StarL L (u++v):=by
 induction h with
 | nil=>simpa using StarL.cons hv .nil
 | cons h1 _ ih=>rw [List.append_assoc];exact .cons h1 ih
theorem StarI.start {L:List Int→Prop} {w:List Int} {f:List Bool} (hf:f.length=w.length+1):StarI L w f f:=
 ⟨hf,fun _ _ h=>h,fun j hj h=>⟨j,Nat.le_refl _,h,by rw [(Lb (Nat.le_refl _) hj).2 rfl];exact .nil⟩⟩
theorem StarI.next {L:List Int→Prop} {w:List Int} {f out:List Bool} (h:StarI L w f out):StarI L w f (Ji out (A3 L w out)):=by
 refine ⟨NH h.len (BK _ _ _),fun j hj hf=>?_,fun j hj ho=>?_⟩
 ·rw [QN h.len (BK _ _ _),h.low j hj hf];rfl
 ·rw [QN h.len (BK _ _ _),Bool.or_eq_true] at ho
  rcases ho with ho|ho
  ·exact h.high j hj ho
  ·rw [Dr hj] at ho
   obtain ⟨m,hm,h1,h2⟩:=ho
   obtain ⟨i,hi,h3,h4⟩:=h.high m (by omega) h1
   exact ⟨i,by omega,h3,by rw [Lc hi hm];exact XT h4 h2⟩
theorem StarI.done {L:List Int→Prop} {w:List Int} {f out:List Bool} (h:StarI L w f out) (he:Ji out (A3 L w out)=out):out=A3 (StarL L) w f:=by
 refine H1 h.len fun j hj=>⟨h.high j hj,?_⟩
 rintro ⟨i,hi,h1,h2⟩
 have key:∀(v:List Int),StarL L v→∀m,m≤j→out.getD m false=true→(w.take j).drop m=v→out.getD j false=true:=by
  intro v hv
  induction hv with
  | nil=>
    intro m hm ho e
    rw [Lb hm hj] at e
    subst e;exact ho
  | @cons u v hu _ ih=>
    intro m hm ho e
    have hlen:j - m=u.length+v.length:=by
     have:=congrArg List.length e
     rw [List.length_drop,List.length_take,List.length_append,Nat.min_eq_left hj] at this
     exact this
    have e2:=Lc (w:=w) (i:=m) (m:=m+u.length) (j:=j) (by omega) (by omega)
    have hul:((w.take (m+u.length)).drop m).length=u.length:=by rw [List.length_drop,List.length_take];omega
    obtain ⟨hU,hV⟩:=List.append_inj (e2.symm.trans e) hul
    refine ih (m+u.length) (by omega) ?_ hV
    rw [←he,QN h.len (BK _ _ _),Bool.or_eq_true]
    refine .inr ((Dr (by omega)).2 ⟨m,by omega,ho,by rw [hU];exact hu⟩)
 exact key _ h2 i hi (h.low i (by omega) h1) rfl
def Dw (l:List Int) (n:Nat) (t:Int):List Int:=(l.take n).map fun a=>Ft a t
theorem XM {l:List Int} {k:Nat} {x:Int} (h:l[k]?=some x) (t:Int):Dw l (k+1) t=Dw l k t++[Ft x t]:=by
 unfold Dw
 rw [List.take_add_one,h]
 simp
theorem Z7 (l:List Int) (n:Nat) {t:Int} (ht:0 < t):∀x∈Dw l n t,0≤x∧x < t:=by
 intro x hx
 obtain ⟨a,_,rfl⟩:=List.mem_map.1 hx
 exact Hi a ht
theorem Z8 (l:List Int) (n:Nat) (t:Int):(Dw l n t).length≤n:=by
 unfold Dw
 rw [List.length_map,List.length_take]
 omega
theorem SD:∀l:List Int,LD (l.map (V.int .i64))=l.map (V.int .i64)
 | []=>rfl
 | x::l=>by simp only [List.map_cons,LD,SD l];rfl
set_option maxHeartbeats 4000000 in
theorem XN (l:List Int) (hl:∀x∈l,-9223372036854775808≤x∧x≤9223372036854775807) (n:Nat) (hn:n≤1000) (t:Int) (ht:0 < t) (ht2:t≤1000):
 Fn1 Tryz.prog 7 [AL l,.int .i64 n,.int .i64 t] (fun r=>r=AL (Dw l n t)):=by
 have hlm:(l.map (V.int .i64)).length=l.length:=by simp
 unfold AL
 refine Pq ?_
 refine Ax Tryz.func7 fun C hC hE=>?_
 conv=>whnf
 skip
 refine Ab (fun k:Nat=>⟨30,[(0,.lst (l.map (V.int .i64))),(1,.int .i64 n),(2,.int .i64 t),(7,.sl 0 0 k),(8,.int .i64 k)],[some (.row 1 ((Dw l k t).map (V.int .i64)))]⟩)
  (fun k=>k≤l.length∧k≤n) (fun k=>l.length - k) 0 hE ?_ (by omega) ?_
 ·exact J9 7 1 rfl rfl (AP [0,1,2,7,8] rfl)
 rintro k ⟨hk,hkn⟩
 have hkl:((Dw l k t).map (V.int .i64)).length=k:=by unfold Dw;simp;omega
 have hnr:=AJ (Dw l k t)
 by_cases hlt:k < l.length∧k < n
 ·obtain ⟨x,hx⟩:∃x,l[k]?=some x:=⟨_,List.getElem?_eq_getElem hlt.1⟩
  have hg:(l.map (V.int .i64))[k]?=some (.int .i64 x):=by rw [List.getElem?_map,hx];rfl
  have hp:=UI x t ht (hl x (List.mem_of_getElem? hx)) (by omega)
  have hnx:=XM hx t
  have hR:List.take k (List.drop 0 ((Dw l k t).map (V.int .i64)))++List.take 1 (List.drop 0 [V.int .i64 (Ft x t)])=(Dw l (k+1) t).map (V.int .i64):=by
   rw [hnx,List.map_append,List.drop_zero,List.take_of_length_le (by omega)]
   rfl
  conv=>whnf
  repeat' (first|refine A2 ?_|refine AO ?_|refine AV ?_|refine Ad ?_|refine AN hp hC GM ?_|refine EN (Nat.le_refl 1) ?_|(refine EN ⟨?_,?_,?_⟩ ?_;(show 0+k≤_;omega);(show k+1≤9223372036854775807;omega);(show (k+1)*8≤140737488355328;omega))|intro hlen)<;>conv=>whnf
  refine AM [0,1,2,7,8] [1] (k+1) (by omega) (by omega) ?_
  conv=>whnf
  rw [hR,AA 0 (AJ _),AA 1 (AJ _)]
  rfl
 ·conv=>whnf
  repeat' (first|refine A1 ?_<;>conv=>whnf|refine DD (A4 0 6 [] rfl (AJ (Dw l k t)) rfl (by omega) rfl (AH ?_))|(first|refine GV (fun h=>?_) (fun h=>?_)|refine AC hE ?_|intro hlen)<;>conv=>whnf)
  all_goals first
   | (exfalso;omega)
   | (refine ⟨rfl,?_⟩
      have hD:Dw l n t=Dw l k t:=by
       unfold Dw
       congr 1
       by_cases h1:k=n
       ·rw [h1]
       ·rw [List.take_of_length_le (by omega:l.length≤n),List.take_of_length_le (by omega:l.length≤k)]
      rw [hD]
      simp only [V.nl,SD]
      done)
   | trace_state
mutual
def gg (Z:List Int):Ex→Int
 | .mk k t ps=>if k=1 then Z.getD t.toNat 0 else if k=2 then kM Z ps else if k=3 then jg Z ps else if k=5 then jg Z ps else 0
def kM (Z:List Int):List Ex→Int
 | []=>0
 | p::ps=>gg Z p+kM Z ps
def jg (Z:List Int):List Ex→Int
 | []=>0
 | p::ps=>if ps.isEmpty then gg Z p else if gg Z p≤jg Z ps then gg Z p else jg Z ps
end
def dS:Ex:=aj
def x0L:List Ex:=[gj,gk,fm,gl]
def x1L:List Ex:=[gu,gv,eH]
def x2L:List Ex:=[iA,eH]
def x3L:List Ex:=[iB,iC,Xj]
def x4L:List Ex:=[Xk,eH,fm]
def m0L:List Mc:=[fj,fk,eG,fp]
def m1L:List Mc:=[ft,fu,da]
def m2L:List Mc:=[fv,da]
def m3L:List Mc:=[fw,fx,UG]
def m4L:List Mc:=[UH,da,eG]
structure Ch where
 a:Nat
 b:Nat
 c:Nat
 d:Nat
 e:Nat
 f:Nat
def In (h:Ch):List Ty:=[⟨[100,111,99],wds0.getD h.a [],[]⟩,⟨[112],wds1.getD h.b [],[[99,108,97,115,115]]⟩,⟨[104,49],wds2.getD h.c [],[]⟩,⟨[117,108],wds3.getD h.d [],[]⟩,⟨[108,105],wds4.getD h.e [],[]⟩,⟨[101,109],wds5.getD h.f [],[]⟩,⟨[],[],[]⟩]
def ij (h:Ch):List Ex:=[x0L.getD h.a dS,x1L.getD h.b dS,x2L.getD h.c dS,x3L.getD h.d dS,x4L.getD h.e dS,x2L.getD h.f dS,dS]
def N8 (h:Ch):List Mc:=[m0L.getD h.a Kg,m1L.getD h.b Kg,m2L.getD h.c Kg,m3L.getD h.d Kg,m4L.getD h.e Kg,m2L.getD h.f Kg,Kg]
structure Ch.ok (h:Ch):Prop where
 a:h.a < 4
 b:h.b < 3
 c:h.c < 2
 d:h.d < 3
 e:h.e < 3
 f:h.f < 2
def N9 (l:List Int) (i n:Nat):Nat:=match l[i]? with|none=>0|some a=>(Ft a n).toNat
def jh (l:List Int):Ch:=⟨N9 l 0 4,N9 l 1 3,N9 l 2 2,N9 l 3 3,N9 l 4 3,N9 l 5 2⟩
theorem KZ (l:List Int) (i:Nat) {n:Nat} (hn:0 < n):N9 l i n < n:=by
 unfold N9
 split
 ·exact hn
 ·rename_i a _
  have:=Hi a (n:=(n:Int)) (by omega)
  omega
theorem H8 (l:List Int) (i:Nat) (s:List (List UInt8)):II l i s=s.getD (N9 l i s.length) []:=by
 unfold II N9
 split<;>simp_all
theorem il (l:List Int):(jh l).ok:=⟨KZ l 0 (by decide),KZ l 1 (by decide),KZ l 2 (by decide),KZ l 3 (by decide),KZ l 4 (by decide),KZ l 5 (by decide)⟩
theorem fZ (l:List Int):gB l=In (jh l):=by
 unfold gB In jh
 rw [H8 l 0,H8 l 1,H8 l 2,H8 l 3,H8 l 4,H8 l 5]
 rfl
theorem aS {h:Ch} (hk:h.ok):∀(i:Nat),i < 7→∃t x m,(In h)[i]?=some t∧(ij h)[i]?=some x∧(N8 h)[i]?=some m∧MachOk t.content x m:=by
 obtain ⟨a,b,c,d,e,f⟩:=h
 obtain ⟨ha,hb,hc,hd,he,hf⟩:=hk
 dsimp only at ha hb hc hd he hf
 intro i hi
 obtain rfl|rfl|rfl|rfl|rfl|rfl|rfl:i=0∨i=1∨i=2∨i=3∨i=4∨i=5∨i=6:=by omega
 ·refine ⟨_,_,_,rfl,rfl,rfl,?_⟩
  obtain rfl|rfl|rfl|rfl:a=0∨a=1∨a=2∨a=3:=by omega
  ·exact kb
  ·exact ke
  ·exact kN
  ·exact kh
 ·refine ⟨_,_,_,rfl,rfl,rfl,?_⟩
  obtain rfl|rfl|rfl:b=0∨b=1∨b=2:=by omega
  ·exact kj
  ·exact km
  ·exact ji
 ·refine ⟨_,_,_,rfl,rfl,rfl,?_⟩
  obtain rfl|rfl:c=0∨c=1:=by omega
  ·exact kO
  ·exact ji
 ·refine ⟨_,_,_,rfl,rfl,rfl,?_⟩
  obtain rfl|rfl|rfl:d=0∨d=1∨d=2:=by omega
  ·exact kq
  ·exact kv
  ·exact j8
 ·refine ⟨_,_,_,rfl,rfl,rfl,?_⟩
  obtain rfl|rfl|rfl:e=0∨e=1∨e=2:=by omega
  ·exact kC
  ·exact ji
  ·exact kN
 ·refine ⟨_,_,_,rfl,rfl,rfl,?_⟩
  obtain rfl|rfl:f=0∨f=1:=by omega
  ·exact kO
  ·exact ji
 ·exact ⟨_,_,_,rfl,rfl,rfl,kE⟩
def nmsC:List Bool:=[true,true,true,true,true,true,false]
def zer7:List Int:=[0,0,0,0,0,0,0]
def fc (h:Ch):Bool:=match aR (nmsC.zip (N8 h)) 20 zer7 with
 | none=>false
 | some Z=>decide (Z.length=7)&&(Z.all fun x=>decide (1≤x)&&decide (x≤150))&&(List.range 6).all fun k=>decide (Z.getD k 0≤1+gg Z ((ij h).getD k dS))
def Fr (a b:Nat):Bool:=(List.range 2).all fun c=>(List.range 3).all fun d=>(List.range 3).all fun e=>(List.range 2).all fun f=>fc ⟨a,b,c,d,e,f⟩
theorem im:Fr 0 0=true:=by decide +kernel
theorem io:Fr 0 1=true:=by decide +kernel
theorem ip:Fr 0 2=true:=by decide +kernel
theorem iq:Fr 1 0=true:=by decide +kernel
theorem ir:Fr 1 1=true:=by decide +kernel
theorem iu:Fr 1 2=true:=by decide +kernel
theorem iv:Fr 2 0=true:=by decide +kernel
theorem iw:Fr 2 1=true:=by decide +kernel
theorem ix:Fr 2 2=true:=by decide +kernel
theorem iy:Fr 3 0=true:=by decide +kernel
theorem iz:Fr 3 1=true:=by decide +kernel
theorem i6:Fr 3 2=true:=by decide +kernel
theorem dU {h:Ch} (hk:h.ok):fc h=true:=by
 have key:∀a b,a < 4→b < 3→Fr a b=true:=by
  intro a b ha hb
  obtain rfl|rfl|rfl|rfl:a=0∨a=1∨a=2∨a=3:=by omega
  all_goals obtain rfl|rfl|rfl:b=0∨b=1∨b=2:=by omega
  ·exact im
  ·exact io
  ·exact ip
  ·exact iq
  ·exact ir
  ·exact iu
  ·exact iv
  ·exact iw
  ·exact ix
  ·exact iy
  ·exact iz
  ·exact i6
 obtain ⟨a,b,c,d,e,f⟩:=h
 have h1:=key a b hk.a hk.b
 unfold Fr at h1
 simp only [List.all_eq_true,List.mem_range] at h1
 exact h1 c hk.c d hk.d e hk.e f hk.f
end Go.Proofs.YtkaiffheakalmaaGreatDoor
