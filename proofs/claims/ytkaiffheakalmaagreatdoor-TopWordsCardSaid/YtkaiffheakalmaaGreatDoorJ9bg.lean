/- Joined. No conditions. -/
import Derived.Test.YtkaiffheakalmaaGreatDoorJ9bf
set_option linter.unusedSimpArgs false
set_option linter.unusedVariables false
set_option maxRecDepth 100000
namespace Go.Proofs.YtkaiffheakalmaaGreatDoor
open Go.RowKit
theorem aZ {S:Ps} (hF:S.F.length≤4) {id:Nat} (h:7≤id) (els:List V) (tail:List (Option Ob)):CG id els ((Bt S).map some++tail)=(Bt S).map some++CG id els tail:=by
 have h0:=E4 hF h els 0 _ rfl
 have h1:=E4 hF h els 1 _ rfl
 have h2:=E4 hF h els 2 _ rfl
 have h3:=E4 hF h els 3 _ rfl
 have h4:=E4 hF h els 4 _ rfl
 have h5:=E4 hF h els 5 _ rfl
 have h6:=E4 hF h els 6 _ rfl
 show some (Ob.frz id els _)::some (Ob.frz id els _)::some (Ob.frz id els _)::some (Ob.frz id els _)::some (Ob.frz id els _)::some (Ob.frz id els _)::some (Ob.frz id els _)::CG id els tail=_
 rw [h0,h1,h2,h3,h4,h5,h6]
 rfl
set_option maxHeartbeats 16000000 in
theorem Xg (x:Ex) (R:Nat) (hO:OkSets (BY x ⟨[],[]⟩).2 (BY x ⟨[],[]⟩).1 R):
 Fn1G Tryz.prog GT 24 [Ah x] (fun r=>r=Dn (Gz (BY x ⟨[],[]⟩).2 (Ae (BY x ⟨[],[]⟩).2.T.length (BY x ⟨[],[]⟩).1.last) (BY x ⟨[],[]⟩).1 R).2 ((Gz (BY x ⟨[],[]⟩).2 (Ae (BY x ⟨[],[]⟩).2.T.length (BY x ⟨[],[]⟩).1.last) (BY x ⟨[],[]⟩).1 R).1.map fun q=>q.2)):=by
 obtain ⟨k,t,ps⟩:=x
 have hadd:=iX (.mk k t ps) ⟨[],[]⟩ ⟨rfl,fun r hr=>by simp at hr⟩ hO.four
 unfold QG at hadd
 generalize BY (.mk k t ps) ⟨[],[]⟩=q at hO hadd ⊢
 obtain ⟨⟨qf,ql,qn⟩,P⟩:=q
 dsimp only at hadd hO ⊢
 have hPl:=hO.len
 have hP4:=hO.four
 rw [DF] at hadd ⊢
 have hPF:P.F.length≤4:=by rw [hO.len];exact hO.four
 have hrep:List.replicate P.T.length (V.bool false)=(Ae P.T.length []).map V.bool:=by simp [Ae]
 have hqm:(ql.map (V.int .i64)).length=ql.length:=by simp
 refine GN Tryz.func24 fun C hC hW hG hE=>?_
 conv=>whnf
 have hg:GC C GT:=iQ hW CD hG
 skip
 refine AY (Bm [2,3,22,23] (BN 0 (B5 (σ':=⟨111,[(2,.ptr 1 0 0),(3,.ptr 2 0 0),(22,.ptr 2 0 0),(23,.agg [.int .i64 k,.int .i64 t,.lst (ps.map Ah)])],[none,some (.row 2 [.agg [.nils,.nils]]),some (.row 5 [.agg [.nils,.nils,.nils,.nils,.bool false]])]⟩) (AH ?_) ?st0)))
 case st0=>rfl
 refine AY (Cx (Cx (Cx (Cx (Cx (Cx (B5 (σ':=⟨111,[(2,.ptr 1 0 0),(3,.ptr 2 0 0),(22,.ptr 2 0 0),(23,.agg [.int .i64 k,.int .i64 t,.lst (ps.map Ah)])],[none,some (.row 2 [.agg [.nils,.nils]]),some (.row 5 [.agg [.nils,.nils,.nils,.nils,.bool false]]),none,none,none,none,none,none]⟩) (AH ?_) ?st1)))))))
 case st1=>rfl
 refine AY (Fk 1 8 (by decide) rfl rfl (B5 (σ':=⟨111,[(2,.ptr 8 0 0),(3,.ptr 2 0 0),(22,.ptr 2 0 0),(23,.agg [.int .i64 k,.int .i64 t,.lst (ps.map Ah)])],[none,none,some (.row 5 [.agg [.nils,.nils,.nils,.nils,.bool false]]),none,none,none,none,none,some (.row 2 [.agg [.nils,.nils]])]⟩) (AH ?_) ?st2))
 case st2=>rfl
 refine AY (Fk 2 0 (by decide) rfl rfl (B5 (σ':=⟨111,[(2,.ptr 8 0 0),(3,.ptr 0 0 0),(22,.ptr 0 0 0),(23,.agg [.int .i64 k,.int .i64 t,.lst (ps.map Ah)])],[some (.row 5 [.agg [.nils,.nils,.nils,.nils,.bool false]]),none,none,none,none,none,none,none,some (.row 2 [.agg [.nils,.nils]])]⟩) (AH ?_) ?st3))
 case st3=>rfl
 refine AY (Cw 0 0 1 rfl rfl (B5 (σ':=⟨111,[(2,.ptr 8 0 0),(3,.ptr 0 0 0),(22,.ptr 0 0 0),(23,.agg [.int .i64 k,.int .i64 t,.lst (ps.map Ah)])],[some (.row 5 [.agg [.sl 1 0 0,.nils,.nils,.nils,.bool false]]),some (.row 1 []),none,none,none,none,none,none,some (.row 2 [.agg [.nils,.nils]])]⟩) (AH ?_) ?st4))
 case st4=>rfl
 refine AY (Cw 0 1 1 rfl rfl (B5 (σ':=⟨111,[(2,.ptr 8 0 0),(3,.ptr 0 0 0),(22,.ptr 0 0 0),(23,.agg [.int .i64 k,.int .i64 t,.lst (ps.map Ah)])],[some (.row 5 [.agg [.sl 1 0 0,.sl 2 0 0,.nils,.nils,.bool false]]),some (.row 1 []),some (.row 1 []),none,none,none,none,none,some (.row 2 [.agg [.nils,.nils]])]⟩) (AH ?_) ?st5))
 case st5=>rfl
 refine AY (Fz 1 (B5 (σ':=⟨111,[(2,.ptr 8 0 0),(3,.ptr 0 0 0),(22,.ptr 0 0 0),(23,.agg [.int .i64 k,.int .i64 t,.lst (ps.map Ah)])],[some (.row 5 [.agg [.sl 1 0 0,.sl 2 0 0,.nils,.nils,.bool false]]),some (.row 1 []),some (.row 1 []),some (.row 1 []),none,none,none,none,some (.row 2 [.agg [.nils,.nils]])]⟩) (AH ?_) ?st6))
 case st6=>rfl
 refine AY (Fz 1 (B5 (σ':=⟨111,[(2,.ptr 8 0 0),(3,.ptr 0 0 0),(22,.ptr 0 0 0),(23,.agg [.int .i64 k,.int .i64 t,.lst (ps.map Ah)])],[some (.row 5 [.agg [.sl 1 0 0,.sl 2 0 0,.nils,.nils,.bool false]]),some (.row 1 []),some (.row 1 []),some (.row 1 []),some (.row 1 []),none,none,none,some (.row 2 [.agg [.nils,.nils]])]⟩) (AH ?_) ?st7))
 case st7=>rfl
 refine AY (Fz 1 (B5 (σ':=⟨111,[(2,.ptr 8 0 0),(3,.ptr 0 0 0),(22,.ptr 0 0 0),(23,.agg [.int .i64 k,.int .i64 t,.lst (ps.map Ah)])],[some (.row 5 [.agg [.sl 1 0 0,.sl 2 0 0,.nils,.nils,.bool false]]),some (.row 1 []),some (.row 1 []),some (.row 1 []),some (.row 1 []),some (.row 1 []),none,none,some (.row 2 [.agg [.nils,.nils]])]⟩) (AH ?_) ?st8))
 case st8=>rfl
 refine AY (Fz 1 (B5 (σ':=⟨111,[(2,.ptr 8 0 0),(3,.ptr 0 0 0),(22,.ptr 0 0 0),(23,.agg [.int .i64 k,.int .i64 t,.lst (ps.map Ah)])],[some (.row 5 [.agg [.sl 1 0 0,.sl 2 0 0,.nils,.nils,.bool false]]),some (.row 1 []),some (.row 1 []),some (.row 1 []),some (.row 1 []),some (.row 1 []),some (.row 1 []),none,some (.row 2 [.agg [.nils,.nils]])]⟩) (AH ?_) ?st9))
 case st9=>rfl
 refine NB hadd hC EH rfl ⟨_,_,rfl,⟨by decide,rfl⟩,BA ⟨⟨trivial,trivial,trivial,trivial⟩,trivial⟩⟩ (FU rfl) (Nat.zero_le _) (by omega) ⟨trivial,trivial,trivial,trivial⟩ ?_
 conv=>whnf
 repeat' (first|refine AO ?_|intro hlen)<;>conv=>whnf
 refine Ab (fun j:Nat=>⟨111,[(2,.ptr 1 0 0),(3,O6 P),(4,.rp [.lst (qf.map (V.int .i64)),.lst (ql.map (V.int .i64)),.bool qn]),(5,.sl 0 0 P.T.length),(32,.lst (ql.map (V.int .i64))),(33,.int .i64 (ql.map (V.int .i64)).length),(34,.int .i64 j)],[some (.row 1 ((Ae P.T.length (ql.take j)).map V.bool)),some (.row 2 [.agg [.nils,.nils]])]⟩)
  (fun j=>j≤ql.length) (fun j=>ql.length - j) 0 hE ?_ (Nat.zero_le _) ?_
 ·refine Bm [2,3,4,5,32,33,34] (AK 7 (z:=3) (els:=[.agg [.lst (qf.map (V.int .i64)),.lst (ql.map (V.int .i64)),.bool qn]]) rfl ⟨⟨trivial,trivial,trivial,trivial⟩,trivial⟩ (B5 (σ':=⟨111,[(2,.ptr 8 0 0),(3,.ptr 0 0 0),(4,.rp [.lst (qf.map (V.int .i64)),.lst (ql.map (V.int .i64)),.bool qn]),(5,.sl 9 0 P.T.length),(32,.lst (ql.map (V.int .i64))),(33,.int .i64 (ql.map (V.int .i64)).length),(34,.int .i64 0)],(Bt P).map some++[none,some (.row 2 [.agg [.nils,.nils]]),some (.row 1 ((Ae P.T.length []).map V.bool))]⟩) ?_ ?st))
  case st=>
   rw [Int.toNat_natCast,hrep]
   show (⟨111,_,(CG 7 _ ((Bt P).map some++[some (.row 3 [.agg [.lst (qf.map (V.int .i64)),.lst (ql.map (V.int .i64)),.bool qn]]),some (.row 2 [.agg [.nils,.nils]]),some (.row 1 ((Ae P.T.length []).map V.bool))])).set 7 none⟩:ES)=_
   rw [aZ hPF (by omega)]
   simp only [CG,Ob.frz,AX _ _ (A6 _)]
   rfl
  refine ii hPF hO.len 3 [2,4,5,32,33,34] rfl (fun id els hid=>?_) (fun id els hid=>?_) (B5 (σ':=⟨111,[(3,O6 P),(2,.ptr 8 0 0),(4,.rp [.lst (qf.map (V.int .i64)),.lst (ql.map (V.int .i64)),.bool qn]),(5,.sl 9 0 P.T.length),(32,.lst (ql.map (V.int .i64))),(33,.int .i64 (ql.map (V.int .i64)).length),(34,.int .i64 0)],[none,none,none,none,none,none,none,none,some (.row 2 [.agg [.nils,.nils]]),some (.row 1 ((Ae P.T.length []).map V.bool))]⟩) ?_ rfl)
  ·have h7:id=0∨id=1∨id=2∨id=3∨id=4∨id=5∨id=6:=by omega
   rcases h7 with rfl|rfl|rfl|rfl|rfl|rfl|rfl<;>rfl
  ·simp only [CG,Ob.frz,AX _ _ (A6 _)]
   rfl
  refine Fk 9 0 (by decide) rfl rfl (B5 (σ':=⟨111,[(3,O6 P),(2,.ptr 8 0 0),(4,.rp [.lst (qf.map (V.int .i64)),.lst (ql.map (V.int .i64)),.bool qn]),(5,.sl 0 0 P.T.length),(32,.lst (ql.map (V.int .i64))),(33,.int .i64 (ql.map (V.int .i64)).length),(34,.int .i64 0)],[some (.row 1 ((Ae P.T.length []).map V.bool)),none,none,none,none,none,none,none,some (.row 2 [.agg [.nils,.nils]]),none]⟩) ?_ ?st1)
  case st1=>
   simp only [D5,Of,Ob.mv,FN _ _ (A6 _)]
   rfl
  refine Fk 8 1 (by decide) rfl rfl (B5 (σ':=⟨111,[(3,O6 P),(2,.ptr 1 0 0),(4,.rp [.lst (qf.map (V.int .i64)),.lst (ql.map (V.int .i64)),.bool qn]),(5,.sl 0 0 P.T.length),(32,.lst (ql.map (V.int .i64))),(33,.int .i64 (ql.map (V.int .i64)).length),(34,.int .i64 0)],[some (.row 1 ((Ae P.T.length []).map V.bool)),some (.row 2 [.agg [.nils,.nils]]),none,none,none,none,none,none,none,none]⟩) ?_ ?st2)
  case st2=>
   simp only [D5,Of,Ob.mv,FN _ _ (A6 _)]
   rfl
  refine MV (AP [2,3,4,5,32,33,34] ?_)
  conv=>whnf
  try rfl
 have hll:ql.length≤12:=hO.ll
 have hfl:qf.length≤12:=hO.fl
 have hfb:∀x∈qf,-9223372036854775808≤x∧x≤9223372036854775807:=fun x hx=>by have h:=hO.fb x hx;omega
 intro j hj
 have hj:j≤ql.length:=hj
 have hLl:=Xe P.T.length (ql.take j)
 have hLm:((Ae P.T.length (ql.take j)).map V.bool).length=P.T.length:=by rw [List.length_map,hLl]
 by_cases hlt:j < ql.length
 ·obtain ⟨y,hy⟩:∃y,ql[j]?=some y:=⟨_,List.getElem?_eq_getElem hlt⟩
  have hyb:=hO.last y (List.mem_of_getElem? hy)
  have g1:(ql.map (V.int .i64))[Int.toNat (j:Int)]?=some (.int .i64 y):=by rw [Int.toNat_natCast,List.getElem?_map,hy];rfl
  obtain ⟨b,hb⟩:∃b,((Ae P.T.length (ql.take j)).map V.bool)[0+Int.toNat y]?=some (.bool b):=by
   have hyl:y.toNat < (Ae P.T.length (ql.take j)).length:=by rw [hLl];omega
   rw [Nat.zero_add,List.getElem?_map,List.getElem?_eq_getElem hyl]
   exact ⟨_,rfl⟩
  have hn:Ae P.T.length (ql.take (j+1))=(Ae P.T.length (ql.take j)).set y.toNat true:=by rw [List.take_add_one,hy];exact UC _ _ _
  conv=>whnf
  repeat' (first|refine A2 ?_|refine AO ?_|refine AV ?_|refine Ad ?_)<;>conv=>whnf
  refine AD [2,3,4,5,32,33,34] (j+1) ?_ ?_ ?_
  ·exact hlt
  ·show ql.length - (j+1) < ql.length - j
   omega
  conv=>whnf
  rw [hn,Nat.zero_add,List.map_set]
  rfl
 obtain rfl:j=ql.length:=by omega
 rw [List.take_length] at*
 conv=>whnf
 repeat' (first|refine A1 ?_|refine Mq ?_|refine br (fun h=>?_) (fun h=>?_))<;>conv=>whnf
 ·have h0:qn=true:=‹qn=true›
  subst h0
  clear h
  refine AY (Bm [2,3,5,8,9,10,11,44,46,48] (P5 3 1 (x:=.nils) (x':=.sl 6 0 0) rfl (P4 6 [] []) rfl (B5 (σ':=⟨111,[(2,.ptr 1 0 0),(3,O6 P),(5,.sl 0 0 P.T.length),(8,.ptr 2 0 0),(9,.ptr 3 0 0),(10,.ptr 5 0 0),(11,.fn 53 [.ptr 5 0 0,.ptr 3 0 0,.ptr 2 0 0]),(44,.fn 53 [.ptr 5 0 0,.ptr 3 0 0,.ptr 2 0 0]),(46,.lst (qf.map (V.int .i64))),(48,.bool true)],[some (.row 1 ((Ae P.T.length ql).map V.bool)),some (.row 2 [.agg [.nils,.nils]]),some (.row 2 [.agg [.nils,.nils]]),some (.row 1 [.sl 6 0 0]),some (.mp []),some (.row 1 [.it 4]),some (.row 1 [])]⟩) (AH ?_) ?st3)))
  case st3=>rfl
  refine AY (Cw 2 0 8 rfl rfl (B5 (σ':=⟨111,[(2,.ptr 1 0 0),(3,O6 P),(5,.sl 0 0 P.T.length),(8,.ptr 2 0 0),(9,.ptr 3 0 0),(10,.ptr 5 0 0),(11,.fn 53 [.ptr 5 0 0,.ptr 3 0 0,.ptr 2 0 0]),(44,.fn 53 [.ptr 5 0 0,.ptr 3 0 0,.ptr 2 0 0]),(46,.lst (qf.map (V.int .i64))),(48,.bool true)],[some (.row 1 ((Ae P.T.length ql).map V.bool)),some (.row 2 [.agg [.nils,.nils]]),some (.row 2 [.agg [.sl 7 0 0,.nils]]),some (.row 1 [.sl 6 0 0]),some (.mp []),some (.row 1 [.it 4]),some (.row 1 []),some (.row 8 [])]⟩) (AH ?_) ?st4))
  case st4=>rfl
  refine AY (Cw 2 1 1 rfl rfl (B5 (σ':=⟨111,[(2,.ptr 1 0 0),(3,O6 P),(5,.sl 0 0 P.T.length),(8,.ptr 2 0 0),(9,.ptr 3 0 0),(10,.ptr 5 0 0),(11,.fn 53 [.ptr 5 0 0,.ptr 3 0 0,.ptr 2 0 0]),(44,.fn 53 [.ptr 5 0 0,.ptr 3 0 0,.ptr 2 0 0]),(46,.lst (qf.map (V.int .i64))),(48,.bool true)],[some (.row 1 ((Ae P.T.length ql).map V.bool)),some (.row 2 [.agg [.nils,.nils]]),some (.row 2 [.agg [.sl 7 0 0,.sl 8 0 0]]),some (.row 1 [.sl 6 0 0]),some (.mp []),some (.row 1 [.it 4]),some (.row 1 []),some (.row 8 []),some (.row 1 [])]⟩) (AH ?_) ?st5))
  case st5=>rfl
  refine Gj qf true [] [] hfl (Nat.zero_le _) hfb hg hC rfl (QX rfl rfl rfl rfl rfl rfl rfl) ?_
  conv=>whnf
  skip
  obtain ⟨K0,hK0⟩:∃K0,(NS qf true []).2=K0:=⟨_,rfl⟩
  rw [hK0]
  simp only [AA _ (A6 (Ae P.T.length ql))]
  refine Ab (fun ((i,K,N):Nat×Kn×List (List Int))=>⟨111,[(2,.ptr 1 0 0),(3,O6 P),(5,.lst ((Ae P.T.length ql).map V.bool)),(8,.ptr 2 0 0),(9,.ptr 3 0 0),(11,.fn 53 [.ptr 5 0 0,.ptr 3 0 0,.ptr 2 0 0]),(12,.int .i64 i)],[none,some (.row 2 [.agg [.nils,.nils]]),some (.row 2 [.agg [.sl 7 0 N.length,.sl 8 0 K.length]]),some (.row 1 [.sl 6 0 K.length]),some (Jv DC (LL K)),some (.row 1 [.it 4]),some (.row 1 (K.map fun q=>AL q.1)),some (.row 8 (N.map BV)),some (.row 1 (K.map fun q=>V.bool q.2))]⟩)
   (fun (i,K,N)=>i≤R∧Gz P (Ae P.T.length ql) ⟨qf,ql,true⟩ i=(K,N)) (fun (i,_,_)=>R - i) (0,K0,[]) hE ?_ ⟨Nat.zero_le _,by rw [←hK0];rfl⟩ ?_
  ·refine Bm [2,3,5,8,9,11,12] (AK 0 (z:=1) (els:=(Ae P.T.length ql).map V.bool) rfl (A6 _) (B5 (σ':=⟨111,[(2,.ptr 1 0 0),(3,O6 P),(5,.lst ((Ae P.T.length ql).map V.bool)),(8,.ptr 2 0 0),(9,.ptr 3 0 0),(11,.fn 53 [.ptr 5 0 0,.ptr 3 0 0,.ptr 2 0 0]),(12,.int .i64 0)],[none,some (.row 2 [.agg [.nils,.nils]]),some (.row 2 [.agg [.sl 7 0 ([]:List (List Int)).length,.sl 8 0 K0.length]]),some (.row 1 [.sl 6 0 K0.length]),some (Jv DC (LL K0)),some (.row 1 [.it 4]),some (.row 1 (K0.map fun q=>AL q.1)),some (.row 8 (([]:List (List Int)).map BV)),some (.row 1 (K0.map fun q=>V.bool q.2))]⟩) ?_ ?st6true))
   case st6true=>
    refine congr (congrArg (ES.mk 111) ?_) ?_
    ·show [(2,_),(3,_),(5,V.frz 0 _ (V.sl 0 0 P.T.length)),(8,_),(9,_),(11,_),(12,_)]=_
     rw [B0 0 _ hLm.symm]
     rfl
    ·simp only [CG,Ob.frz,AX _ _ (F0 K0),AX _ _ (Ds K0),AX _ _ (Cc _),AX _ _ (A6 _)]
     rfl
   refine AP [2,3,5,8,9,11,12] ?_
   conv=>whnf
   try rfl
  clear hK0 K0
  rintro ⟨i,K,N⟩ ⟨hi,hrun⟩
  have hNl:=SS P (Ae P.T.length ql) ⟨qf,ql,true⟩ i
  rw [hrun] at hNl
  have hNl:N.length=i:=hNl
  have hmany:=hO.many i hi
  rw [hrun] at hmany
  have hmany:K.length≤900:=hmany
  by_cases hlt:i < R
  ·have hKi:=hO.go i hlt
   have hqb:=hO.q i hlt
   have hql:=hO.ql i hlt
   have hto:=hO.to i hlt
   have htol:=hO.tol i hlt
   rw [hrun] at hKi hqb hql hto htol
   dsimp only at hKi hqb hql hto htol
   obtain ⟨⟨q,fq⟩,hq⟩:∃x,K[i]?=some x:=⟨_,List.getElem?_eq_getElem hKi⟩
   have hgd:K.getD i ([],false)=(q,fq):=by rw [List.getD_eq_getElem?_getD,hq];rfl
   rw [hgd] at hqb hql hto htol
   dsimp only at hqb hql hto htol
   have hnext:Gz P (Ae P.T.length ql) ⟨qf,ql,true⟩ (i+1)=((Hh P (Ae P.T.length ql) q K 8).1,N++[(Hh P (Ae P.T.length ql) q K 8).2]):=by rw [Kb,hrun];unfold aV;rw [hgd]
   conv=>whnf
   repeat' (first|refine A2 ?_|intro hlen)<;>conv=>whnf
   refine Ab (fun ((c,K',A):Nat×Kn×List Int)=>⟨111,[(2,.ptr 1 0 0),(3,O6 P),(5,.lst ((Ae P.T.length ql).map V.bool)),(8,.ptr 2 0 0),(9,.ptr 3 0 0),(11,.fn 53 [.ptr 5 0 0,.ptr 3 0 0,.ptr 2 0 0]),(12,.int .i64 i),(13,.ptr 0 0 0),(56,.int .i64 c)],[some (.row 8 [BV A]),some (.row 2 [.agg [.nils,.nils]]),some (.row 2 [.agg [.sl 7 0 N.length,.sl 8 0 K'.length]]),some (.row 1 [.sl 6 0 K'.length]),some (Jv DC (LL K')),some (.row 1 [.it 4]),some (.row 1 (K'.map fun q=>AL q.1)),some (.row 8 (N.map BV)),some (.row 1 (K'.map fun q=>V.bool q.2))]⟩)
    (fun (c,K',A)=>c≤8∧A.length=8∧Hh P (Ae P.T.length ql) q K c=(K',A.take c)) (fun (c,_,_)=>8 - c) (0,K,[0,0,0,0,0,0,0,0]) hE ?_ ⟨Nat.zero_le _,rfl,rfl⟩ ?_
   ·refine AP [2,3,5,8,9,11,12,13,56] ?_
    conv=>whnf
    try rfl
   rintro ⟨c,K',A⟩ ⟨hc,hA8,hlet⟩
   obtain ⟨hl1,hl2,hl3,hl4⟩:=SR P (Ae P.T.length ql) q K c
   rw [hlet] at hl1 hl2 hl3 hl4
   dsimp only at hl1 hl2 hl3 hl4
   have hq':=hl4 i _ hq
   by_cases hc8:c < 8
   ·have g1:(K'.map fun q=>AL q.1)[0+Int.toNat (i:Int)]?=some (AL q):=by rw [Nat.zero_add,Int.toNat_natCast,List.getElem?_map,hq'];rfl
    have hKl:(K'.map fun q=>AL q.1).length=K'.length:=by simp
    unfold AL at g1 hKl ⊢
    conv=>whnf
    repeat' (first|refine A2 ?_|refine AO ?_|refine Ad ?_|intro hlen)<;>conv=>whnf
    refine Ab (fun ((j,to,any,fin):Nat×List Int×Bool×Bool)=>⟨111,[(2,.ptr 1 0 0),(3,O6 P),(5,.lst ((Ae P.T.length ql).map V.bool)),(8,.ptr 2 0 0),(9,.ptr 3 0 0),(11,.fn 53 [.ptr 5 0 0,.ptr 3 0 0,.ptr 2 0 0]),(12,.int .i64 i),(13,.ptr 0 0 0),(14,.int .i64 c),(15,.sl 9 0 to.length),(16,.bool any),(17,.bool fin),(56,.int .i64 c),(62,.lst (q.map (V.int .i64))),(63,.int .i64 (q.map (V.int .i64)).length),(64,.int .i64 j)],[some (.row 8 [BV A]),some (.row 2 [.agg [.nils,.nils]]),some (.row 2 [.agg [.sl 7 0 N.length,.sl 8 0 K'.length]]),some (.row 1 [.sl 6 0 K'.length]),some (Jv DC (LL K')),some (.row 1 [.it 4]),some (.row 1 (K'.map fun q=>V.lst (q.1.map (V.int .i64)))),some (.row 8 (N.map BV)),some (.row 1 (K'.map fun q=>V.bool q.2)),some (.row 1 (to.map (V.int .i64)))]⟩)
     (fun (j,to,any,fin)=>j≤q.length∧to.length≤12*j∧(q.take j).foldl (Jn P (Ae P.T.length ql) (c:Nat)) ([],false,false)=(to,any,fin)) (fun (j,_,_,_)=>q.length - j) (0,[],false,false) hE ?_ ⟨Nat.zero_le _,Nat.le_refl _,rfl⟩ ?_
    ·refine J9 15 1 rfl rfl (AP [2,3,5,8,9,11,12,13,14,15,16,17,56,62,63,64] ?_)
     conv=>whnf
     try rfl
    rintro ⟨j,to,any,fin⟩ ⟨hj,htl,hfold⟩
    have kk:∀id,AF id (K'.map fun q=>V.lst (q.1.map (V.int .i64)))=K'.map fun q=>V.lst (q.1.map (V.int .i64)):=fun id=>AA id (F0 K')
    have hqm:(q.map (V.int .i64)).length=q.length:=by simp
    by_cases hjt:j < q.length
    ·obtain ⟨k,hk⟩:∃k,q[j]?=some k:=⟨_,List.getElem?_eq_getElem hjt⟩
     obtain ⟨hk0,hk1⟩:=hqb k (List.mem_of_getElem? hk)
     have gq:(q.map (V.int .i64))[Int.toNat (j:Int)]?=some (.int .i64 k):=by rw [Int.toNat_natCast,List.getElem?_map,hk];rfl
     have gT:(P.T.map (V.int .i64))[Int.toNat k]?=some (.int .i64 (CV P.T k.toNat)):=by rw [List.getElem?_map,Fs (by omega)];rfl
     obtain ⟨row,hrow⟩:∃row,P.F[k.toNat]?=some row:=⟨_,List.getElem?_eq_getElem (by omega)⟩
     have hrF:AE P.F k.toNat=row:=by unfold AE;rw [List.getD_eq_getElem?_getD,hrow];rfl
     have hrl:=hO.rows row (List.mem_of_getElem? hrow)
     have gF:(P.F.map AL)[Int.toNat k]?=some (.lst (row.map (V.int .i64))):=by rw [List.getElem?_map,hrow];rfl
     obtain ⟨bl,hbl⟩:∃bl,(Ae P.T.length ql).getD k.toNat false=bl:=⟨_,rfl⟩
     have gL:((Ae P.T.length ql).map V.bool)[Int.toNat k]?=some (.bool bl):=by rw [List.getElem?_map,←hbl,List.getD_eq_getElem?_getD,List.getElem?_eq_getElem (by omega)];rfl
     have hTm:(P.T.map (V.int .i64)).length=P.T.length:=by simp
     have hFm:(P.F.map AL).length=P.T.length:=by rw [List.length_map,hPl]
     have hrm:(row.map (V.int .i64)).length=row.length:=by simp
     have htm:(to.map (V.int .i64)).length=to.length:=by simp
     have hstep:(q.take (j+1)).foldl (Jn P (Ae P.T.length ql) (c:Nat)) ([],false,false)=if CV P.T k.toNat=(c:Nat) then (to++row,true,fin || bl) else (to,any,fin):=by
      rw [List.take_add_one,hk,Option.toList_some,List.foldl_append,hfold]
      show Jn P _ _ (to,any,fin) k=_
      unfold Jn
      rw [hrF,hbl]
     by_cases he:CV P.T k.toNat=(c:Nat)
     ·rw [if_pos he] at hstep
      cases fin
      all_goals cases bl
      all_goals
       conv=>whnf
       repeat' (first|refine A2 ?_|refine AO ?_|refine AV ?_|refine Ad ?_|refine ⟨CR row,?_⟩|(refine An hE ?_ ?_;decide +kernel))<;>conv=>whnf
       all_goals
        refine AM [2,3,5,8,9,11,12,13,14,15,16,17,56,62,63,64] [] (j+1,to++row,true,_) ⟨hjt,by (rw [List.length_append];omega),hstep⟩ (by show q.length - (j+1) < q.length - j;omega) ?_
        conv=>whnf
        simp only [aX,aY,PA,kk,AA _ (Ds K'),AA _ (Cc N),AA _ (Bs _)]
        rfl
     ·rw [if_neg he] at hstep
      conv=>whnf
      repeat' (first|refine A2 ?_|refine A1 ?_|refine AO ?_|refine AV ?_|refine Ad ?_)<;>conv=>whnf
      refine AD [2,3,5,8,9,11,12,13,14,15,16,17,56,62,63,64] (j+1,to,any,fin) ⟨hjt,by omega,hstep⟩ (by show q.length - (j+1) < q.length - j;omega) ?_
      conv=>whnf
      try rfl
    ·have hfull:dV P (Ae P.T.length ql) q (c:Nat)=(to,any,fin):=by rw [←hfold,List.take_of_length_le (by omega)];rfl
     have htol:=htol c hc8
     have hto:=hto c hc8
     rw [hfull] at htol hto
     dsimp only at htol hto
     have htm:(to.map (V.int .i64)).length=to.length:=by simp
     have htb:∀x∈to,-9223372036854775808≤x∧x≤9223372036854775807:=fun x hx=>by have:=hto x hx;omega
     have hset:∀v:Int,(A.set c v).take (c+1)=A.take c++[v]:=fun v=>by
      rw [List.take_add_one,List.take_set_of_le (Nat.le_refl c),List.getElem?_set_self (by omega)]
      rfl
     have hlen:∀v:Int,(A.set c v).length=8:=fun v=>by rw [List.length_set];exact hA8
     have hnxt:Hh P (Ae P.T.length ql) q K (c+1)=if any=true then ((NS to fin K').2,A.take c++[(NS to fin K').1]) else (K',A.take c++[-1]):=by
      rw [Ka,hlet]
      unfold aU
      rw [hfull]
     cases any
     ·rw [if_neg (by decide),←hset] at hnxt
      obtain ⟨a0,a1,a2,a3,a4,a5,a6,a7,rfl⟩:=M6 hA8
      obtain rfl|rfl|rfl|rfl|rfl|rfl|rfl|rfl:c=0∨c=1∨c=2∨c=3∨c=4∨c=5∨c=6∨c=7:=by omega
      all_goals
       conv=>whnf
       repeat' (first|refine A1 ?_|refine AO ?_|refine AV ?_)<;>conv=>whnf
       refine AM [2,3,5,8,9,11,12,13,56] [9] (_+1,K',List.set [a0,a1,a2,a3,a4,a5,a6,a7] _ (-1)) ⟨?_,hlen _,hnxt⟩ ?_ ?_
       ·omega
       ·show 8 - _ < 8 - _;omega
       conv=>whnf
       simp only [kk,AA _ (Ds K'),AA _ (Cc N)]
       rfl
     ·rw [if_pos rfl,←hset] at hnxt
      obtain ⟨a0,a1,a2,a3,a4,a5,a6,a7,rfl⟩:=M6 hA8
      cases fin
      all_goals obtain rfl|rfl|rfl|rfl|rfl|rfl|rfl|rfl:c=0∨c=1∨c=2∨c=3∨c=4∨c=5∨c=6∨c=7:=by omega
      all_goals
       conv=>whnf
       repeat' (first|refine A1 ?_|refine AO ?_)<;>conv=>whnf
       refine AY (A4 9 99 [2,3,5,8,9,11,12,13,56,97,98,100] rfl (Bs to) rfl htm.symm rfl (AH ?_))
       refine Gj to _ K' N htol (by omega) htb hg hC rfl (QX rfl rfl rfl rfl (congrArg (fun l=>some (some (Ob.row 1 l))) (AX 9 _ (F0 K'))) (congrArg (fun l=>some (some (Ob.row 8 l))) (AX 9 _ (Cc N))) (congrArg (fun l=>some (some (Ob.row 1 l))) (AX 9 _ (Ds K')))) ?_
       conv=>whnf
       repeat' (first|refine AO ?_|refine AV ?_)<;>conv=>whnf
       refine AM [2,3,5,8,9,11,12,13,56] [] (_+1,(NS to _ K').2,List.set [a0,a1,a2,a3,a4,a5,a6,a7] _ (NS to _ K').1) ⟨?_,hlen _,hnxt⟩ ?_ ?_
       ·omega
       ·show 8 - _ < 8 - _;omega
       conv=>whnf
       rfl
   ·obtain rfl:c=8:=by omega
    obtain ⟨a0,a1,a2,a3,a4,a5,a6,a7,rfl⟩:=M6 hA8
    have kk':∀id,AF id (K'.map fun q=>AL q.1)=K'.map fun q=>AL q.1:=fun id=>AA id (F0 K')
    have hNm:(N.map BV).length=N.length:=by simp
    conv=>whnf
    repeat' (first|refine A1 ?_|refine AV ?_|refine EN (Nat.le_refl 1) ?_|(refine EN ⟨?_,?_,?_⟩ ?_;(simp<;>omega);(show _+1≤9223372036854775807;omega);(show (_+1)*_≤140737488355328;omega)))<;>conv=>whnf
    refine AM [2,3,5,8,9,11,12] [0,9] (i+1,K',N++[[a0,a1,a2,a3,a4,a5,a6,a7]]) ⟨hlt,?_⟩ (by show R - (i+1) < R - i;omega) ?_
    ·rw [hnext,hlet];rfl
    conv=>whnf
    rw [R5]
    simp only [R6,kk',AA _ (Ds K'),AA _ (Cc _),List.length_append]
    rfl
  ·obtain rfl:i=R:=by omega
   have hfin:=hO.fin
   rw [hrun] at hfin
   have hfin:K.length=i:=hfin
   conv=>whnf
   repeat' (first|refine A1 ?_|refine DD (Ri 1 2 7 8 (za:=8) (zb:=1) (la:=N.map BV) (lb:=K.map fun q=>V.bool q.2) rfl rfl rfl rfl (by decide) (by decide) (by decide) (Cc N) (Ds K) (by simp) (by simp) (AH (AC hE ?_)))|intro hlen)<;>conv=>whnf
   rw [hrun]
   exact ⟨rfl,by unfold Dn;rw [List.map_map];rfl⟩
 ·have h0:qn=false:=‹qn=false›
  subst h0
  clear h
  refine AY (Bm [2,3,5,8,9,10,11,44,46,48] (P5 3 1 (x:=.nils) (x':=.sl 6 0 0) rfl (P4 6 [] []) rfl (B5 (σ':=⟨111,[(2,.ptr 1 0 0),(3,O6 P),(5,.sl 0 0 P.T.length),(8,.ptr 2 0 0),(9,.ptr 3 0 0),(10,.ptr 5 0 0),(11,.fn 53 [.ptr 5 0 0,.ptr 3 0 0,.ptr 2 0 0]),(44,.fn 53 [.ptr 5 0 0,.ptr 3 0 0,.ptr 2 0 0]),(46,.lst (qf.map (V.int .i64))),(48,.bool false)],[some (.row 1 ((Ae P.T.length ql).map V.bool)),some (.row 2 [.agg [.nils,.nils]]),some (.row 2 [.agg [.nils,.nils]]),some (.row 1 [.sl 6 0 0]),some (.mp []),some (.row 1 [.it 4]),some (.row 1 [])]⟩) (AH ?_) ?st3)))
  case st3=>rfl
  refine AY (Cw 2 0 8 rfl rfl (B5 (σ':=⟨111,[(2,.ptr 1 0 0),(3,O6 P),(5,.sl 0 0 P.T.length),(8,.ptr 2 0 0),(9,.ptr 3 0 0),(10,.ptr 5 0 0),(11,.fn 53 [.ptr 5 0 0,.ptr 3 0 0,.ptr 2 0 0]),(44,.fn 53 [.ptr 5 0 0,.ptr 3 0 0,.ptr 2 0 0]),(46,.lst (qf.map (V.int .i64))),(48,.bool false)],[some (.row 1 ((Ae P.T.length ql).map V.bool)),some (.row 2 [.agg [.nils,.nils]]),some (.row 2 [.agg [.sl 7 0 0,.nils]]),some (.row 1 [.sl 6 0 0]),some (.mp []),some (.row 1 [.it 4]),some (.row 1 []),some (.row 8 [])]⟩) (AH ?_) ?st4))
  case st4=>rfl
  refine AY (Cw 2 1 1 rfl rfl (B5 (σ':=⟨111,[(2,.ptr 1 0 0),(3,O6 P),(5,.sl 0 0 P.T.length),(8,.ptr 2 0 0),(9,.ptr 3 0 0),(10,.ptr 5 0 0),(11,.fn 53 [.ptr 5 0 0,.ptr 3 0 0,.ptr 2 0 0]),(44,.fn 53 [.ptr 5 0 0,.ptr 3 0 0,.ptr 2 0 0]),(46,.lst (qf.map (V.int .i64))),(48,.bool false)],[some (.row 1 ((Ae P.T.length ql).map V.bool)),some (.row 2 [.agg [.nils,.nils]]),some (.row 2 [.agg [.sl 7 0 0,.sl 8 0 0]]),some (.row 1 [.sl 6 0 0]),some (.mp []),some (.row 1 [.it 4]),some (.row 1 []),some (.row 8 []),some (.row 1 [])]⟩) (AH ?_) ?st5))
  case st5=>rfl
  refine Gj qf false [] [] hfl (Nat.zero_le _) hfb hg hC rfl (QX rfl rfl rfl rfl rfl rfl rfl) ?_
  conv=>whnf
  skip
  obtain ⟨K0,hK0⟩:∃K0,(NS qf false []).2=K0:=⟨_,rfl⟩
  rw [hK0]
  simp only [AA _ (A6 (Ae P.T.length ql))]
  refine Ab (fun ((i,K,N):Nat×Kn×List (List Int))=>⟨111,[(2,.ptr 1 0 0),(3,O6 P),(5,.lst ((Ae P.T.length ql).map V.bool)),(8,.ptr 2 0 0),(9,.ptr 3 0 0),(11,.fn 53 [.ptr 5 0 0,.ptr 3 0 0,.ptr 2 0 0]),(12,.int .i64 i)],[none,some (.row 2 [.agg [.nils,.nils]]),some (.row 2 [.agg [.sl 7 0 N.length,.sl 8 0 K.length]]),some (.row 1 [.sl 6 0 K.length]),some (Jv DC (LL K)),some (.row 1 [.it 4]),some (.row 1 (K.map fun q=>AL q.1)),some (.row 8 (N.map BV)),some (.row 1 (K.map fun q=>V.bool q.2))]⟩)
   (fun (i,K,N)=>i≤R∧Gz P (Ae P.T.length ql) ⟨qf,ql,false⟩ i=(K,N)) (fun (i,_,_)=>R - i) (0,K0,[]) hE ?_ ⟨Nat.zero_le _,by rw [←hK0];rfl⟩ ?_
  ·refine Bm [2,3,5,8,9,11,12] (AK 0 (z:=1) (els:=(Ae P.T.length ql).map V.bool) rfl (A6 _) (B5 (σ':=⟨111,[(2,.ptr 1 0 0),(3,O6 P),(5,.lst ((Ae P.T.length ql).map V.bool)),(8,.ptr 2 0 0),(9,.ptr 3 0 0),(11,.fn 53 [.ptr 5 0 0,.ptr 3 0 0,.ptr 2 0 0]),(12,.int .i64 0)],[none,some (.row 2 [.agg [.nils,.nils]]),some (.row 2 [.agg [.sl 7 0 ([]:List (List Int)).length,.sl 8 0 K0.length]]),some (.row 1 [.sl 6 0 K0.length]),some (Jv DC (LL K0)),some (.row 1 [.it 4]),some (.row 1 (K0.map fun q=>AL q.1)),some (.row 8 (([]:List (List Int)).map BV)),some (.row 1 (K0.map fun q=>V.bool q.2))]⟩) ?_ ?st6false))
   case st6false=>
    refine congr (congrArg (ES.mk 111) ?_) ?_
    ·show [(2,_),(3,_),(5,V.frz 0 _ (V.sl 0 0 P.T.length)),(8,_),(9,_),(11,_),(12,_)]=_
     rw [B0 0 _ hLm.symm]
     rfl
    ·simp only [CG,Ob.frz,AX _ _ (F0 K0),AX _ _ (Ds K0),AX _ _ (Cc _),AX _ _ (A6 _)]
     rfl
   refine AP [2,3,5,8,9,11,12] ?_
   conv=>whnf
   try rfl
  clear hK0 K0
  rintro ⟨i,K,N⟩ ⟨hi,hrun⟩
  have hNl:=SS P (Ae P.T.length ql) ⟨qf,ql,false⟩ i
  rw [hrun] at hNl
  have hNl:N.length=i:=hNl
  have hmany:=hO.many i hi
  rw [hrun] at hmany
  have hmany:K.length≤900:=hmany
  by_cases hlt:i < R
  ·have hKi:=hO.go i hlt
   have hqb:=hO.q i hlt
   have hql:=hO.ql i hlt
   have hto:=hO.to i hlt
   have htol:=hO.tol i hlt
   rw [hrun] at hKi hqb hql hto htol
   dsimp only at hKi hqb hql hto htol
   obtain ⟨⟨q,fq⟩,hq⟩:∃x,K[i]?=some x:=⟨_,List.getElem?_eq_getElem hKi⟩
   have hgd:K.getD i ([],false)=(q,fq):=by rw [List.getD_eq_getElem?_getD,hq];rfl
   rw [hgd] at hqb hql hto htol
   dsimp only at hqb hql hto htol
   have hnext:Gz P (Ae P.T.length ql) ⟨qf,ql,false⟩ (i+1)=((Hh P (Ae P.T.length ql) q K 8).1,N++[(Hh P (Ae P.T.length ql) q K 8).2]):=by rw [Kb,hrun];unfold aV;rw [hgd]
   conv=>whnf
   repeat' (first|refine A2 ?_|intro hlen)<;>conv=>whnf
   refine Ab (fun ((c,K',A):Nat×Kn×List Int)=>⟨111,[(2,.ptr 1 0 0),(3,O6 P),(5,.lst ((Ae P.T.length ql).map V.bool)),(8,.ptr 2 0 0),(9,.ptr 3 0 0),(11,.fn 53 [.ptr 5 0 0,.ptr 3 0 0,.ptr 2 0 0]),(12,.int .i64 i),(13,.ptr 0 0 0),(56,.int .i64 c)],[some (.row 8 [BV A]),some (.row 2 [.agg [.nils,.nils]]),some (.row 2 [.agg [.sl 7 0 N.length,.sl 8 0 K'.length]]),some (.row 1 [.sl 6 0 K'.length]),some (Jv DC (LL K')),some (.row 1 [.it 4]),some (.row 1 (K'.map fun q=>AL q.1)),some (.row 8 (N.map BV)),some (.row 1 (K'.map fun q=>V.bool q.2))]⟩)
    (fun (c,K',A)=>c≤8∧A.length=8∧Hh P (Ae P.T.length ql) q K c=(K',A.take c)) (fun (c,_,_)=>8 - c) (0,K,[0,0,0,0,0,0,0,0]) hE ?_ ⟨Nat.zero_le _,rfl,rfl⟩ ?_
   ·refine AP [2,3,5,8,9,11,12,13,56] ?_
    conv=>whnf
    try rfl
   rintro ⟨c,K',A⟩ ⟨hc,hA8,hlet⟩
   obtain ⟨hl1,hl2,hl3,hl4⟩:=SR P (Ae P.T.length ql) q K c
   rw [hlet] at hl1 hl2 hl3 hl4
   dsimp only at hl1 hl2 hl3 hl4
   have hq':=hl4 i _ hq
   by_cases hc8:c < 8
   ·have g1:(K'.map fun q=>AL q.1)[0+Int.toNat (i:Int)]?=some (AL q):=by rw [Nat.zero_add,Int.toNat_natCast,List.getElem?_map,hq'];rfl
    have hKl:(K'.map fun q=>AL q.1).length=K'.length:=by simp
    unfold AL at g1 hKl ⊢
    conv=>whnf
    repeat' (first|refine A2 ?_|refine AO ?_|refine Ad ?_|intro hlen)<;>conv=>whnf
    refine Ab (fun ((j,to,any,fin):Nat×List Int×Bool×Bool)=>⟨111,[(2,.ptr 1 0 0),(3,O6 P),(5,.lst ((Ae P.T.length ql).map V.bool)),(8,.ptr 2 0 0),(9,.ptr 3 0 0),(11,.fn 53 [.ptr 5 0 0,.ptr 3 0 0,.ptr 2 0 0]),(12,.int .i64 i),(13,.ptr 0 0 0),(14,.int .i64 c),(15,.sl 9 0 to.length),(16,.bool any),(17,.bool fin),(56,.int .i64 c),(62,.lst (q.map (V.int .i64))),(63,.int .i64 (q.map (V.int .i64)).length),(64,.int .i64 j)],[some (.row 8 [BV A]),some (.row 2 [.agg [.nils,.nils]]),some (.row 2 [.agg [.sl 7 0 N.length,.sl 8 0 K'.length]]),some (.row 1 [.sl 6 0 K'.length]),some (Jv DC (LL K')),some (.row 1 [.it 4]),some (.row 1 (K'.map fun q=>V.lst (q.1.map (V.int .i64)))),some (.row 8 (N.map BV)),some (.row 1 (K'.map fun q=>V.bool q.2)),some (.row 1 (to.map (V.int .i64)))]⟩)
     (fun (j,to,any,fin)=>j≤q.length∧to.length≤12*j∧(q.take j).foldl (Jn P (Ae P.T.length ql) (c:Nat)) ([],false,false)=(to,any,fin)) (fun (j,_,_,_)=>q.length - j) (0,[],false,false) hE ?_ ⟨Nat.zero_le _,Nat.le_refl _,rfl⟩ ?_
    ·refine J9 15 1 rfl rfl (AP [2,3,5,8,9,11,12,13,14,15,16,17,56,62,63,64] ?_)
     conv=>whnf
     try rfl
    rintro ⟨j,to,any,fin⟩ ⟨hj,htl,hfold⟩
    have kk:∀id,AF id (K'.map fun q=>V.lst (q.1.map (V.int .i64)))=K'.map fun q=>V.lst (q.1.map (V.int .i64)):=fun id=>AA id (F0 K')
    have hqm:(q.map (V.int .i64)).length=q.length:=by simp
    by_cases hjt:j < q.length
    ·obtain ⟨k,hk⟩:∃k,q[j]?=some k:=⟨_,List.getElem?_eq_getElem hjt⟩
     obtain ⟨hk0,hk1⟩:=hqb k (List.mem_of_getElem? hk)
     have gq:(q.map (V.int .i64))[Int.toNat (j:Int)]?=some (.int .i64 k):=by rw [Int.toNat_natCast,List.getElem?_map,hk];rfl
     have gT:(P.T.map (V.int .i64))[Int.toNat k]?=some (.int .i64 (CV P.T k.toNat)):=by rw [List.getElem?_map,Fs (by omega)];rfl
     obtain ⟨row,hrow⟩:∃row,P.F[k.toNat]?=some row:=⟨_,List.getElem?_eq_getElem (by omega)⟩
     have hrF:AE P.F k.toNat=row:=by unfold AE;rw [List.getD_eq_getElem?_getD,hrow];rfl
     have hrl:=hO.rows row (List.mem_of_getElem? hrow)
     have gF:(P.F.map AL)[Int.toNat k]?=some (.lst (row.map (V.int .i64))):=by rw [List.getElem?_map,hrow];rfl
     obtain ⟨bl,hbl⟩:∃bl,(Ae P.T.length ql).getD k.toNat false=bl:=⟨_,rfl⟩
     have gL:((Ae P.T.length ql).map V.bool)[Int.toNat k]?=some (.bool bl):=by rw [List.getElem?_map,←hbl,List.getD_eq_getElem?_getD,List.getElem?_eq_getElem (by omega)];rfl
     have hTm:(P.T.map (V.int .i64)).length=P.T.length:=by simp
     have hFm:(P.F.map AL).length=P.T.length:=by rw [List.length_map,hPl]
     have hrm:(row.map (V.int .i64)).length=row.length:=by simp
     have htm:(to.map (V.int .i64)).length=to.length:=by simp
     have hstep:(q.take (j+1)).foldl (Jn P (Ae P.T.length ql) (c:Nat)) ([],false,false)=if CV P.T k.toNat=(c:Nat) then (to++row,true,fin || bl) else (to,any,fin):=by
      rw [List.take_add_one,hk,Option.toList_some,List.foldl_append,hfold]
      show Jn P _ _ (to,any,fin) k=_
      unfold Jn
      rw [hrF,hbl]
     by_cases he:CV P.T k.toNat=(c:Nat)
     ·rw [if_pos he] at hstep
      cases fin
      all_goals cases bl
      all_goals
       conv=>whnf
       repeat' (first|refine A2 ?_|refine AO ?_|refine AV ?_|refine Ad ?_|refine ⟨CR row,?_⟩|(refine An hE ?_ ?_;decide +kernel))<;>conv=>whnf
       all_goals
        refine AM [2,3,5,8,9,11,12,13,14,15,16,17,56,62,63,64] [] (j+1,to++row,true,_) ⟨hjt,by (rw [List.length_append];omega),hstep⟩ (by show q.length - (j+1) < q.length - j;omega) ?_
        conv=>whnf
        simp only [aX,aY,PA,kk,AA _ (Ds K'),AA _ (Cc N),AA _ (Bs _)]
        rfl
     ·rw [if_neg he] at hstep
      conv=>whnf
      repeat' (first|refine A2 ?_|refine A1 ?_|refine AO ?_|refine AV ?_|refine Ad ?_)<;>conv=>whnf
      refine AD [2,3,5,8,9,11,12,13,14,15,16,17,56,62,63,64] (j+1,to,any,fin) ⟨hjt,by omega,hstep⟩ (by show q.length - (j+1) < q.length - j;omega) ?_
      conv=>whnf
      try rfl
    ·have hfull:dV P (Ae P.T.length ql) q (c:Nat)=(to,any,fin):=by rw [←hfold,List.take_of_length_le (by omega)];rfl
     have htol:=htol c hc8
     have hto:=hto c hc8
     rw [hfull] at htol hto
     dsimp only at htol hto
     have htm:(to.map (V.int .i64)).length=to.length:=by simp
     have htb:∀x∈to,-9223372036854775808≤x∧x≤9223372036854775807:=fun x hx=>by have:=hto x hx;omega
     have hset:∀v:Int,(A.set c v).take (c+1)=A.take c++[v]:=fun v=>by
      rw [List.take_add_one,List.take_set_of_le (Nat.le_refl c),List.getElem?_set_self (by omega)]
      rfl
     have hlen:∀v:Int,(A.set c v).length=8:=fun v=>by rw [List.length_set];exact hA8
     have hnxt:Hh P (Ae P.T.length ql) q K (c+1)=if any=true then ((NS to fin K').2,A.take c++[(NS to fin K').1]) else (K',A.take c++[-1]):=by
      rw [Ka,hlet]
      unfold aU
      rw [hfull]
     cases any
     ·rw [if_neg (by decide),←hset] at hnxt
      obtain ⟨a0,a1,a2,a3,a4,a5,a6,a7,rfl⟩:=M6 hA8
      obtain rfl|rfl|rfl|rfl|rfl|rfl|rfl|rfl:c=0∨c=1∨c=2∨c=3∨c=4∨c=5∨c=6∨c=7:=by omega
      all_goals
       conv=>whnf
       repeat' (first|refine A1 ?_|refine AO ?_|refine AV ?_)<;>conv=>whnf
       refine AM [2,3,5,8,9,11,12,13,56] [9] (_+1,K',List.set [a0,a1,a2,a3,a4,a5,a6,a7] _ (-1)) ⟨?_,hlen _,hnxt⟩ ?_ ?_
       ·omega
       ·show 8 - _ < 8 - _;omega
       conv=>whnf
       simp only [kk,AA _ (Ds K'),AA _ (Cc N)]
       rfl
     ·rw [if_pos rfl,←hset] at hnxt
      obtain ⟨a0,a1,a2,a3,a4,a5,a6,a7,rfl⟩:=M6 hA8
      cases fin
      all_goals obtain rfl|rfl|rfl|rfl|rfl|rfl|rfl|rfl:c=0∨c=1∨c=2∨c=3∨c=4∨c=5∨c=6∨c=7:=by omega
      all_goals
       conv=>whnf
       repeat' (first|refine A1 ?_|refine AO ?_)<;>conv=>whnf
       refine AY (A4 9 99 [2,3,5,8,9,11,12,13,56,97,98,100] rfl (Bs to) rfl htm.symm rfl (AH ?_))
       refine Gj to _ K' N htol (by omega) htb hg hC rfl (QX rfl rfl rfl rfl (congrArg (fun l=>some (some (Ob.row 1 l))) (AX 9 _ (F0 K'))) (congrArg (fun l=>some (some (Ob.row 8 l))) (AX 9 _ (Cc N))) (congrArg (fun l=>some (some (Ob.row 1 l))) (AX 9 _ (Ds K')))) ?_
       conv=>whnf
       repeat' (first|refine AO ?_|refine AV ?_)<;>conv=>whnf
       refine AM [2,3,5,8,9,11,12,13,56] [] (_+1,(NS to _ K').2,List.set [a0,a1,a2,a3,a4,a5,a6,a7] _ (NS to _ K').1) ⟨?_,hlen _,hnxt⟩ ?_ ?_
       ·omega
       ·show 8 - _ < 8 - _;omega
       conv=>whnf
       rfl
   ·obtain rfl:c=8:=by omega
    obtain ⟨a0,a1,a2,a3,a4,a5,a6,a7,rfl⟩:=M6 hA8
    have kk':∀id,AF id (K'.map fun q=>AL q.1)=K'.map fun q=>AL q.1:=fun id=>AA id (F0 K')
    have hNm:(N.map BV).length=N.length:=by simp
    conv=>whnf
    repeat' (first|refine A1 ?_|refine AV ?_|refine EN (Nat.le_refl 1) ?_|(refine EN ⟨?_,?_,?_⟩ ?_;(simp<;>omega);(show _+1≤9223372036854775807;omega);(show (_+1)*_≤140737488355328;omega)))<;>conv=>whnf
    refine AM [2,3,5,8,9,11,12] [0,9] (i+1,K',N++[[a0,a1,a2,a3,a4,a5,a6,a7]]) ⟨hlt,?_⟩ (by show R - (i+1) < R - i;omega) ?_
    ·rw [hnext,hlet];rfl
    conv=>whnf
    rw [R5]
    simp only [R6,kk',AA _ (Ds K'),AA _ (Cc _),List.length_append]
    rfl
  ·obtain rfl:i=R:=by omega
   have hfin:=hO.fin
   rw [hrun] at hfin
   have hfin:K.length=i:=hfin
   conv=>whnf
   repeat' (first|refine A1 ?_|refine DD (Ri 1 2 7 8 (za:=8) (zb:=1) (la:=N.map BV) (lb:=K.map fun q=>V.bool q.2) rfl rfl rfl rfl (by decide) (by decide) (by decide) (Cc N) (Ds K) (by simp) (by simp) (AH (AC hE ?_)))|intro hlen)<;>conv=>whnf
   rw [hrun]
   exact ⟨rfl,by unfold Dn;rw [List.map_map];rfl⟩
end Go.Proofs.YtkaiffheakalmaaGreatDoor
