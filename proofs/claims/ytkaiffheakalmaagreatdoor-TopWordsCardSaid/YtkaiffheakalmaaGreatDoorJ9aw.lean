/- Joined. No conditions. -/
import Derived.Test.YtkaiffheakalmaaGreatDoorJ9av
import Derived.Lib.Builder
import Derived.Lib.UnsafeStr
import Derived.Lib.AppendStr
set_option linter.unusedSimpArgs false
set_option linter.unusedVariables false
set_option maxRecDepth 100000
namespace Go.Proofs.YtkaiffheakalmaaGreatDoor
open Go.RowKit
structure Cmp (M A:List Int) (k m:Nat):Prop where
 len:A.length=M.length
 pos:1≤k
 le:k+1≤m
 top:m≤M.length
 asc:∀p q,p < q→q < k→CV A p < CV A q
 mem:∀z,(∃p,p < k∧CV A p=z)↔∃p,p < m∧CV M p=z
 last:CV A (k - 1)=CV M (m - 1)
 rest:∀p,m - 1≤p→CV A p=CV M p
section
variable {M A:List Int} {k m:Nat}
theorem Cmp.start (h1:1≤k) (hk:k < M.length) (ha:∀p q,p < q→q < k→CV M p < CV M q) (he:CV M k=CV M (k - 1)):Cmp M M k (k+1):=by
 refine ⟨rfl,h1,Nat.le_refl _,hk,ha,fun z=>⟨fun ⟨p,hp,e⟩=>⟨p,by omega,e⟩,fun ⟨p,hp,e⟩=>?_⟩,by rw [Nat.add_sub_cancel];exact he.symm,fun _ _=>rfl⟩
 by_cases e1:p=k
 ·exact ⟨k - 1,by omega,by rw [←he,←e1];exact e⟩
 ·exact ⟨p,by omega,e⟩
theorem Cmp.same (h:Cmp M A k m) (hm:m < M.length) (he:CV M m=CV M (m - 1)):Cmp M A k (m+1):=by
 have h1:=h.le
 refine ⟨h.len,h.pos,by omega,hm,h.asc,fun z=>(h.mem z).trans ⟨fun ⟨p,hp,e⟩=>⟨p,by omega,e⟩,fun ⟨p,hp,e⟩=>?_⟩,by rw [Nat.add_sub_cancel,he];exact h.last,fun p hp=>h.rest p (by omega)⟩
 by_cases e1:p=m
 ·exact ⟨m - 1,by omega,by rw [←he,←e1];exact e⟩
 ·exact ⟨p,by omega,e⟩
theorem Cmp.new (h:Cmp M A k m) (hs:∀p q,p < q→q < M.length→CV M p≤CV M q) (hm:m < M.length) (he:CV M m≠CV M (m - 1)):Cmp M (A.set k (CV M m)) (k+1) (m+1):=by
 have h1:=h.le
 have h2:=h.pos
 have h3:=h.len
 have hw:=QY (A:=A) (i:=k) (by omega) (CV M m)
 have hlt:CV M (m - 1) < CV M m:=by have:=hs (m - 1) m (by omega) hm;omega
 refine ⟨by rw [List.length_set];exact h3,by omega,by omega,hm,fun p q g1 g2=>?_,fun z=>?_,?_,fun p hp=>?_⟩
 ·rw [hw,hw,if_neg (show ¬p=k by omega)]
  by_cases e:q=k
  ·rw [if_pos e]
   by_cases e2:p=k - 1
   ·rw [e2,h.last];exact hlt
   ·have:=h.asc p (k - 1) (by omega) (by omega)
    rw [h.last] at this
    omega
  ·rw [if_neg e];exact h.asc p q g1 (by omega)
 ·constructor
  ·rintro ⟨p,hp,e⟩
   rw [hw] at e
   by_cases e1:p=k
   ·rw [if_pos e1] at e;exact ⟨m,by omega,e⟩
   ·rw [if_neg e1] at e
    obtain ⟨q,hq,e2⟩:=(h.mem z).1 ⟨p,by omega,e⟩
    exact ⟨q,by omega,e2⟩
  ·rintro ⟨p,hp,e⟩
   by_cases e1:p=m
   ·exact ⟨k,by omega,by rw [hw,if_pos rfl,←e1];exact e⟩
   ·obtain ⟨q,hq,e2⟩:=(h.mem z).2 ⟨p,by omega,e⟩
    exact ⟨q,by omega,by rw [hw,if_neg (by omega)];exact e2⟩
 ·rw [Nat.add_sub_cancel,Nat.add_sub_cancel,hw,if_pos rfl]
 ·rw [hw,if_neg (by omega)];exact h.rest p (by omega)
theorem NE {L:List Int} (hk:k≤A.length) (ha:∀p q,p < q→q < k→CV A p < CV A q) (hm:∀z,(∃p,p < k∧CV A p=z)↔z∈L):A.take k=CE L:=by
 have hg:∀p,p < k→(A.take k)[p]?=some (CV A p):=fun p hp=>by rw [List.getElem?_take,if_pos hp,Fs (by omega)]
 refine ah (List.pairwise_iff_getElem.2 fun i j hi hj hij=>?_) (PC L) fun z=>?_
 ·rw [List.length_take] at hi hj
  have e1:=hg i (by omega)
  have e2:=hg j (by omega)
  rw [List.getElem?_eq_getElem (by rw [List.length_take];omega)] at e1 e2
  rw [Option.some.inj e1,Option.some.inj e2]
  exact ha i j hij (by omega)
 ·rw [Kf,←hm]
  constructor
  ·intro h
   obtain ⟨p,hp⟩:=List.mem_iff_getElem?.1 h
   have hlt:=(List.getElem?_eq_some_iff.1 hp).1
   rw [List.length_take] at hlt
   rw [hg p (by omega)] at hp
   exact ⟨p,by omega,Option.some.inj hp⟩
  ·rintro ⟨p,hp,rfl⟩
   exact List.mem_of_getElem? (hg p hp)
end
set_option maxHeartbeats 8000000 in
theorem XK (L M:List Int) (hM:UE L M) (h0:0 < L.length) (h12:L.length≤12):HFn Tryz.prog 54 [.sl 0 0 L.length] [.row 1 (M.map (V.int .i64))] [] (fun r o=>r=AL (CE L)∧o=[.row 1 []]):=by
 have hl:=hM.len
 rw [←hl] at h0 h12 ⊢
 have hs:=hM.ord
 rw [←hl] at hs
 have hmem:∀z,(∃p,p < M.length∧CV M p=z)↔z∈L:=fun z=>by rw [←QZ,hM.mem]
 clear hM hl
 have hMm:(M.map (V.int .i64)).length=M.length:=by simp
 have hend:(∀p q,p < q→q < M.length→CV M p < CV M q)→M=CE L:=fun h=>by
  have:=NE (Nat.le_refl _) h hmem
  rwa [List.take_length] at this
 refine IJ Tryz.func54 fun C vs hC hE=>?_
 conv=>whnf
 repeat' (first|refine GV (fun h=>?_) (fun h=>?_)|intro hlen)<;>conv=>whnf
 ·refine Ap (A4 0 2 [] rfl (Bs M) rfl hMm.symm rfl (Fz 1 (AH (BP hE ?_))))
  conv=>whnf
  have:=hend fun p q h1 h2=>by omega
  rw [←this]
  exact ⟨rfl,rfl,rfl,rfl⟩
 refine Ab (fun k:Nat=>⟨61,[(0,.sl 0 0 M.length),(3,.int .i64 k)],[some (.row 1 (M.map (V.int .i64))),some (.hid vs [.sl 0 0 M.length])]⟩)
  (fun k=>1≤k∧k≤M.length∧∀p q,p < q→q < k→CV M p < CV M q) (fun k=>M.length - k) 1 hE ?_ ⟨Nat.le_refl _,h0,fun p q h1 h2=>by omega⟩ ?_
 ·refine AP [0,3] ?_
  conv=>whnf
  try rfl
 rintro k0 ⟨hk1,hk,hasc⟩
 by_cases hlt:k0 < M.length
 ·have g1:=Lh (A:=M) hlt
  have g2:=ST (A:=M) hk1 hlt
  by_cases he:CV M k0=CV M (k0 - 1)
  ·conv=>whnf
   repeat' (first|refine A2 ?_|refine AO ?_|refine AV ?_|refine Ad ?_|(refine An hE ?_ ?_;decide +kernel)|intro hlen)<;>conv=>whnf
   refine Ab (fun ((k,j,A):Nat×Nat×List Int)=>⟨61,[(0,.sl 0 0 M.length),(3,.int .i64 k),(4,.sl 0 k0 (M.length - k0)),(5,.int .i64 j)],[some (.row 1 (A.map (V.int .i64))),some (.hid vs [.sl 0 0 M.length])]⟩)
    (fun (k,j,A)=>1≤j∧k0+j≤M.length∧Cmp M A k (k0+j)) (fun (_,j,_)=>M.length - j) (k0,1,M) hE ?_ ⟨Nat.le_refl _,hlt,Cmp.start hk1 hlt hasc he⟩ ?_
   ·refine AP [0,3,4,5] ?_
    conv=>whnf
    rw [Nat.zero_add,Int.toNat_natCast]
    try rfl
   rintro ⟨k,j,A⟩ ⟨hj1,hj,hC0⟩
   have hAl:=hC0.len
   have hle:=hC0.le
   have hAm:(A.map (V.int .i64)).length=A.length:=by simp
   by_cases hjt:k0+j < M.length
   ·have g1:(A.map (V.int .i64))[k0+Int.toNat (j:Int)]?=some (.int .i64 (CV M (k0+j))):=by
     rw [Int.toNat_natCast,List.getElem?_map,Fs (by omega),hC0.rest _ (by omega)];rfl
    have g2:(A.map (V.int .i64))[k0+Int.toNat ((j:Int) - 1)]?=some (.int .i64 (CV M (k0+j - 1))):=by
     rw [show Int.toNat ((j:Int) - 1)=j - 1 by omega,show k0+(j - 1)=k0+j - 1 by omega,List.getElem?_map,Fs (by omega),hC0.rest _ (by omega)];rfl
    have g3:(A.map (V.int .i64))[0+Int.toNat (k:Int)]?=some (.int .i64 (CV A k)):=Lh (by omega)
    by_cases he2:CV M (k0+j)=CV M (k0+j - 1)
    ·conv=>whnf
     repeat' (first|refine A2 ?_|refine AO ?_|refine AV ?_|refine Ad ?_|(refine An hE ?_ ?_;decide +kernel)|intro hlen)<;>conv=>whnf
     refine AD [0,3,4,5] (k,j+1,A) ⟨by omega,by omega,hC0.same hjt he2⟩ (by show M.length - (j+1) < M.length - j;omega) ?_
     conv=>whnf
     try rfl
    ·conv=>whnf
     repeat' (first|refine A2 ?_|refine A1 ?_|refine AO ?_|refine AV ?_|refine Ad ?_|(refine An hE ?_ ?_;decide +kernel)|intro hlen)<;>conv=>whnf
     refine AD [0,3,4,5] (k+1,j+1,A.set k (CV M (k0+j))) ⟨by omega,by omega,hC0.new hs hjt he2⟩ (by show M.length - (j+1) < M.length - j;omega) ?_
     conv=>whnf
     rw [Nat.zero_add,Int.toNat_natCast]
     show _=(⟨61,_,[some (.row 1 ((A.set k (CV M (k0+j))).map (V.int .i64))),_]⟩:ES)
     rw [List.map_set]
     rfl
   ·have hm:k0+j=M.length:=by omega
    have hD:A.take k=CE L:=NE (by omega) hC0.asc fun z=>by rw [hC0.mem,hm];exact hmem z
    have hDl:(CE L).length=k:=by rw [←hD,List.length_take];omega
    obtain ⟨i0,hi1,hi2,hi3,_⟩:=info_parts Vv
    have hz1:∀u∈(Value.int .i64 0).cells.toList,u.oneCell'=true:=Vu
    have hcm:0+Int.toNat (k:Int)≤(A.map (V.int .i64)).length:=by rw [hAm];omega
    conv=>whnf
    repeat' (first|refine A1 ?_|refine AO ?_|(refine Wm hC Tryz.underlying22 hi1 hi2 rfl hz1 0 _ _ rfl rfl hcm ?_ ?_;omega)|intro hlen)<;>conv=>whnf
    have e1:(A.map (V.int .i64)).take (0+Int.toNat (k:Int))=(CE L).map (V.int .i64):=by rw [Nat.zero_add,Int.toNat_natCast,←hD,List.map_take]
    have e2:Int.toNat (k:Int)=((CE L).map (V.int .i64)).length:=by rw [List.length_map,hDl,Int.toNat_natCast]
    rw [e1]
    refine Ap (A4 0 2 [] rfl (Bs (CE L)) rfl e2 rfl (Fz 1 (AH (BP hE ?_))))
    conv=>whnf
    exact ⟨rfl,rfl,rfl,rfl⟩
  ·conv=>whnf
   repeat' (first|refine A2 ?_|refine A1 ?_|refine AO ?_|refine AV ?_|refine Ad ?_|(refine An hE ?_ ?_;decide +kernel)|intro hlen)<;>conv=>whnf
   refine AD [0,3] (k0+1) ⟨by omega,hlt,fun p q h1 h2=>?_⟩ (by show M.length - (k0+1) < M.length - k0;omega) ?_
   ·by_cases e:q=k0
    ·subst e
     have hx:CV M (q - 1) < CV M q:=by have:=hs (q - 1) q (by omega) hlt;omega
     by_cases e2:p=q - 1
     ·rw [e2];exact hx
     ·have:=hasc p (q - 1) (by omega) (by omega);omega
    ·exact hasc p q h1 (by omega)
   conv=>whnf
   try rfl
 ·obtain rfl:k0=M.length:=by omega
  conv=>whnf
  repeat' (first|refine A1 ?_|intro hlen)<;>conv=>whnf
  refine Ap (A4 0 2 [] rfl (Bs M) rfl hMm.symm rfl (Fz 1 (AH (BP hE ?_))))
  conv=>whnf
  have:=hend hasc
  rw [←this]
  exact ⟨rfl,rfl,rfl,rfl⟩
theorem K1:Fn1 Tryz.prog 54 [.lst []] (fun r=>r= .lst []):=by
 have h2:((([]:List V).length:Nat):Int) < 2:=by decide
 refine Ax Tryz.func54 fun C hC hE=>?_
 conv=>whnf
 repeat' (first|refine A2 ?_|refine AC hE ?_|intro hlen)<;>conv=>whnf
 exact ⟨rfl,rfl⟩
theorem RY:(Tryz.prog.info? 138).map (·.size)=some 2:=by kernel_rfl
theorem Y3:liesAt Tryz.prog Tryz.prog.depth 138 (2 / Tryz.prog.cellsOf 138) 0 138 1=true:=by kernel_rfl
set_option maxHeartbeats 1000000 in
set_option maxRecDepth 100000 in
theorem cN (b:Nat) (w:World) (h0:w.cell? ⟨b,0,none⟩=some (.pointer (some ⟨b,0,none⟩))):
 Calls Tryz.prog 96 #[.pointer (some ⟨b,0,none⟩)] w fun e w'=>e= .returned (.tuple #[])∧w'=w:=by
 obtain ⟨j,hj,_⟩:=Option.map_eq_some_iff.1 RY
 go_enter Tryz.func96,Tryz.ntmps96
 go_wp2
 rw [Lib.run_neq_ptr_same w _ Tryz.underlying135 hj]
 go_wp2
 go_end0
 exact ⟨rfl,rfl⟩
set_option maxHeartbeats 1000000 in
set_option maxRecDepth 100000 in
theorem Y4 (b:Nat) (w:World) (h0:w.cell? ⟨b,0,none⟩=some (.pointer none)) (hsh:w.shape? b=some (138,2)) (hfz:w.frozen? ⟨b,0,none⟩=false):
 Calls Tryz.prog 96 #[.pointer (some ⟨b,0,none⟩)] w fun e w'=>e= .returned (.tuple #[])∧w'=w.setCell ⟨b,0,none⟩ (.pointer (some ⟨b,0,none⟩)):=by
 obtain ⟨j,hj,hjs⟩:=Option.map_eq_some_iff.1 RY
 go_enter Tryz.func96,Tryz.ntmps96
 go_wp2
 rw [Lib.run_to_unsafe w ⟨b,0,none⟩ Tryz.underlying135 Tryz.underlying177 hj (by rw [hjs];decide) hsh (Nat.zero_lt_succ 1)]
 simp only [Result.andThen]
 rw [Oper.upon_value]
 go_wp2
 rw [run_callFunc_extern Tryz.func115 (by kernel_rfl) (by kernel_rfl) (by kernel_rfl) (e:=Extern.AbiNoEscape.same) (by kernel_rfl)]
 rw [Lib.run_noEscape]
 simp only [Result.andThen]
 rw [Oper.upon_value]
 go_wp2
 rw [Lib.run_from_unsafe w ⟨b,0,none⟩ Tryz.underlying177 Tryz.underlying135 hj hsh Y3]
 simp only [Result.andThen]
 rw [Oper.upon_value]
 go_wp2
 go_end0
 exact ⟨rfl,rfl⟩
def VP (c:UInt8):Value:=.int .u8 c.toNat
def BufIs (U:TypeId) (w:World) (v:Value) (s:List UInt8):Prop:=
 (v= .slice none 0 0∧s=[])∨∃g cap cur,v= .slice (some ⟨g,0,none⟩) s.length cap∧s≠[]∧w.heap[g]?=some (.cells cur U (0,0))∧s.length≤cap∧cap≤maxLen∧cap≤cur.size∧
  ∀(i:Nat) (x:UInt8),s[i]?=some x→cur[i]?=some (VP x)
structure BFrame (w w':World) (v v':Value):Prop where
 os:w'.os=w.os
 tape:w'.tape=w.tape
 output:w'.output=w.output
 size:w.heap.size≤w'.heap.size
 block:∀k,k < w.heap.size→v.ownBlock≠some k→w'.heap[k]?=w.heap[k]?
 shape:∀b s,w.shape? b=some s→w'.shape? b=some s
 own:∀g,v'.ownBlock=some g→v.ownBlock=some g∨(w.heap.size≤g∧g < w'.heap.size)
theorem Wh {U:TypeId} {w:World} {v:Value} {s:List UInt8} (h:BufIs U w v s):∃a cap,v= .slice a s.length cap:=by
 rcases h with ⟨rfl,rfl⟩|⟨g,cap,cur,rfl,_⟩
 ·exact ⟨_,_,rfl⟩
 ·exact ⟨_,_,rfl⟩
theorem TZ {P:Program} {t t' ty U:TypeId} {i:TypeInfo} {zv:Value} (w:World) (ht:P.underlying t=some (.slice U)) (hi:P.info? U=some i) (hiz:i.size=1) (hz:i.zero=some zv) (hzs:zv.cells.size=1) (hby:i.bytes=1) (ht':En P t'=true)
 {v x:Value} {s news:List UInt8} (hv:BufIs U w v s) (hlen:∀w',(Builtin.lenOf x).run P w'= .ok (news.length:Nat) w') (hf:∀w',w'.heap=w.heap→(Builtin.firstCells 1 news.length x).run P w'= .ok (news.map VP).toArray w')
 (hb:s.length+news.length≤140737488355328):
 ∃v' w',(Builtin.append_ #[t,t'] ty #[v,x]).run P w= .ok v' w'∧BufIs U w' v' (s++news)∧BFrame w w' v v':=by
 have hmax:s.length+news.length≤maxLen:=by simp only [maxLen];omega
 have h1:∀u∈news.map VP,u.oneCell'=true:=by
  intro u hu
  obtain ⟨c,_,rfl⟩:=List.mem_map.1 hu
  rfl
 have grow:∀(base:Option Addr) (cap:Nat) (olds:List Value),v= .slice base s.length cap→olds=s.map VP→(Builtin.firstCells 1 s.length (.slice base s.length cap)).run P w.drew= .ok olds.toArray w.drew→cap < s.length+news.length→
  ∃v' w',(Builtin.append_ #[t,t'] ty #[v,x]).run P w= .ok v' w'∧BufIs U w' v' (s++news)∧BFrame w w' v v':=by
  intro base cap olds hvv holds hf0 hlt
  have hr:=Dy (P:=P) (t:=t) (t':=t') (ty:=ty) (z:=1) w ht hi hiz hz ht' hf0 hlen (hf w.drew rfl) hlt hmax (by rw [hby];omega)
  have hge:=grownCap_ge w (s.length+news.length) cap U
  have hcm:=grownCap_le_maxLen w (s.length+news.length) cap U hmax
  refine ⟨_,_,by rw [hvv];exact hr,.inr ⟨w.heap.size,grownCap w (s.length+news.length) cap U,_,by rw [List.length_append],?_,heap_alloc_new w.drew _,by rw [List.length_append];exact hge,hcm,?_,?_⟩,?_⟩
  ·intro e
   have:(s++news).length=0:=by rw [e];rfl
   rw [List.length_append] at this
   omega
  ·simp only [Array.size_append,List.size_toArray,holds,List.length_map,size_zeroCells,hzs]
   omega
  ·intro j y hy
   have hj:j < (s++news).length:=(List.getElem?_eq_some_iff.1 hy).1
   have e1:olds.toArray++(news.map VP).toArray++Builtin.zeroCells zv.cells (grownCap w (s.length+news.length) cap U - (s.length+news.length))=((s++news).map VP).toArray++Builtin.zeroCells zv.cells (grownCap w (s.length+news.length) cap U - (s.length+news.length)):=by
    rw [holds];simp
   rw [e1,Array.getElem?_append_left (by simpa using hj)]
   simp only [List.getElem?_toArray,List.getElem?_map,hy,Option.map_some]
  ·have hl:=EW (fun _=>False) w.drew (.cells (olds.toArray++(news.map VP).toArray++Builtin.zeroCells zv.cells (grownCap w (s.length+news.length) cap U - (s.length+news.length))) U) (fun b hb=>hb.elim)
   refine ⟨rfl,rfl,rfl,by simp,fun k hk _=>BE w.drew _ k hk,fun b s hs=>hl.shape b s hs,fun g hg=>.inr ?_⟩
   simp only [Value.ownBlock,Option.some.injEq] at hg
   subst hg
   exact ⟨Nat.le_refl _,by simp⟩
 rcases hv with ⟨rfl,rfl⟩|⟨g,cap,cur,rfl,hne,hg,hlc,hcm,hcs,hcell⟩
 ·by_cases h0:news=[]
  ·subst h0
   exact ⟨_,_,DS w ht hi ht' hlen (by rw [hiz];exact hf w rfl),.inl ⟨rfl,rfl⟩,⟨rfl,rfl,rfl,Nat.le_refl _,fun _ _ _=>rfl,fun _ _ h=>h,fun g hg=>.inl hg⟩⟩
  ·have:0 < news.length:=List.length_pos_iff.2 h0
   exact grow none 0 [] rfl rfl (by simp [Builtin.firstCells]) (by simp;omega)
 ·by_cases hroom:s.length+news.length≤cap
  ·have hfit:0+s.length*1+(news.map VP).length≤cur.size:=by simp;omega
   have hr:=F5 (P:=P) (t:=t) (t':=t') (ty:=ty) (z:=1) w ht hi hiz ht' (.of hg) hlen (hf w rfl) h1 hroom hfit
   have hsame:(cur.toList.take (0+s.length*1)++news.map VP++cur.toList.drop (0+s.length*1+(news.map VP).length)).toArray.size=cur.size:=by
    simp only [List.size_toArray,List.length_append,List.length_take,List.length_drop,Array.length_toList,List.length_map] at hfit ⊢
    omega
   refine ⟨_,_,hr,.inr ⟨g,cap,_,by rw [List.length_append],by simp [hne],setRow_heap w g cur _ U _ hg,by rw [List.length_append];exact hroom,hcm,by rw [hsame];exact hcs,?_⟩,?_⟩
   ·intro j y hy
    rw [List.getElem?_toArray,Hl _ _ _ _ (by simpa using hfit)]
    rw [List.getElem?_append] at hy
    simp only [Nat.zero_add,Nat.mul_one,List.length_map]
    by_cases hj:j < s.length
    ·rw [if_pos hj] at hy ⊢
     rw [Array.getElem?_toList]
     exact hcell j y hy
    ·rw [if_neg hj] at hy ⊢
     have:j - s.length < news.length:=(List.getElem?_eq_some_iff.1 hy).1
     rw [if_pos (by omega),List.getElem?_map,hy]
     rfl
   ·have hl:=Ey (I:=fun _=>False) hg hsame (fun h=>h)
    refine ⟨rfl,rfl,rfl,by rw [DY];exact Nat.le_refl _,fun k hk hn=>setRow_other w g k _ (fun e=>hn (by simp [Value.ownBlock,e])),fun b s hs=>hl.shape b s hs,fun g' hg'=>.inl ?_⟩
    simpa [Value.ownBlock] using hg'
  ·refine grow _ cap (s.map VP) rfl rfl (run_firstCells_some (P:=P) w.drew 1 s.length ⟨g,0,none⟩ s.length cap (s.map VP) (by simp) (fun j u hj=>?_)) (by omega)
   rw [Addr.add_lit]
   show w.cell? _=_
   rw [cell_of_row w g _ cur U (0,0) hg,Nat.zero_add]
   rw [List.getElem?_map,Option.map_eq_some_iff] at hj
   obtain ⟨y,hy,rfl⟩:=hj
   exact hcell j y hy
theorem Ta {P:Program} {ops:Array Oper} {rest:List Oper} {o:Oper} {a:Act} {Q:Exit→Act→World→Prop} (w:World) (hgd:o.guard=none) (sl x:Operand) (t t':TypeId)
 (ho:o.op= .call { callee:=.builtin .append,args:=#[sl,x],argTypes:=#[t,t']})
 {U:TypeId} {i:TypeInfo} {zv:Value} (ht:P.underlying t=some (.slice U)) (hi:P.info? U=some i) (hiz:i.size=1) (hz:i.zero=some zv) (hzs:zv.cells.size=1) (hby:i.bytes=1) (ht':En P t'=true)
 (v:Value) (s news:List UInt8) (hs:a.eval sl=v) (hv:BufIs U w v s) (hlen:∀w',(Builtin.lenOf (a.eval x)).run P w'= .ok (news.length:Nat) w') (hf:∀w',w'.heap=w.heap→(Builtin.firstCells 1 news.length (a.eval x)).run P w'= .ok (news.map VP).toArray w')
 (hb:s.length+news.length≤140737488355328)
 (h:∀v' w',BufIs U w' v' (s++news)→BFrame w w' v v'→wpList P ops Q rest (a.put o.dst v') w'):wpList P ops Q (o::rest) a w:=by
 refine wpList_plain hgd fun K hK=>?_
 obtain ⟨v',w',hr,h2,h3⟩:=TZ (P:=P) (t:=t) (t':=t') (ty:=o.type) w ht hi hiz hz hzs hby ht' hv hlen hf hb
 unfold Oper.wp execOp
 simp only [ho,resolve,invoke,builtin,Sem.run_bind,Sem.run_pure,Result.andThen_ok,List.map_toArray,List.map_cons,List.map_nil,hs,hr]
 exact hK _ _ (h v' w' h2 h3)
theorem d6 {P:Program} {w w':World} {I:Nat→Prop} {bl:Nat→Option BI} {o0 o1 o0' o1':Ob} (hH:HeapRep ⟨P,w,Af bl,I⟩ [some o0,some o1] w I bl) {b:Nat} (h0:bl 0=some ⟨some b,0,2⟩) {g0 g1:Option Nat} (h1:bl 1=some ⟨g0,0,1⟩)
 (hos:w'.os=w.os) (htape:w'.tape=w.tape) (hout:w'.output=w.output) (hsize:w.heap.size≤w'.heap.size) (hblock:∀k,k < w.heap.size→k≠b→g0≠some k→w'.heap[k]?=w.heap[k]?) (hshape:∀b s,w.shape? b=some s→w'.shape? b=some s)
 (hown:∀g,g1=some g→g0=some g∨(w.heap.size≤g∧g < w'.heap.size))
 (r0:ObRep w' I (GQ bl 1 ⟨g1,0,1⟩) 0 o0') (r1:ObRep w' I (GQ bl 1 ⟨g1,0,1⟩) 1 o1'):HeapRep ⟨P,w,Af bl,I⟩ [some o0',some o1'] w' I (GQ bl 1 ⟨g1,0,1⟩):=by
 have two:∀id i,bl id=some i→id=0∨id=1:=by
  intro id i h
  obtain ⟨o,ho⟩:=hH.live id i h
  have:=(List.getElem?_eq_some_iff.1 ho).1
  simp at this
  omega
 have hb:=hH.own 0 _ b h0 rfl
 have hu0:GQ bl 1 (⟨g1,0,1⟩:BI) 0=some ⟨some b,0,2⟩:=by rw [Aa (by decide)];exact h0
 have hu1:GQ bl 1 (⟨g1,0,1⟩:BI) 1=some ⟨g1,0,1⟩:=AT _ _ _
 have hE:∀k,k < w.heap.size→¬Af bl k→w'.heap[k]?=w.heap[k]?:=by
  intro k hk hn
  refine hblock k hk (fun e=>hn ⟨0,_,h0,by rw [e]⟩) (fun e=>hn ⟨1,_,h1,e⟩)
 have gne:∀g,g1=some g→g≠b:=by
  intro g hg e
  rcases hown g hg with h|h
  ·subst e
   have:=hH.apart 0 1 _ _ g h0 h1 rfl h
   omega
  ·have:=hb.1;omega
 have cases2:∀id i,GQ bl 1 (⟨g1,0,1⟩:BI) id=some i→(id=0∧i=⟨some b,0,2⟩)∨(id=1∧i=⟨g1,0,1⟩):=by
  intro id i h
  by_cases e:id=1
  ·subst e;rw [hu1] at h;exact .inr ⟨rfl,(Option.some.inj h).symm⟩
  ·rw [Aa e] at h
   rcases two id i h with e'|e'
   ·subst e';rw [h0] at h;exact .inl ⟨rfl,(Option.some.inj h).symm⟩
   ·exact absurd e' e
 refine ⟨fun id o ho=>?_,fun id i hi=>?_,fun id id' i i' c h2 h3 h4 h5=>?_,fun id i c h2 h3=>?_,fun k hk=>?_,⟨hos,htape,hout,hsize,hE,hshape⟩⟩
 ·match id,ho with
  | 0,ho=>simp at ho;subst ho;exact r0
  | 1,ho=>simp at ho;subst ho;exact r1
  | n+2,ho=>simp at ho
 ·rcases cases2 id i hi with ⟨rfl,_⟩|⟨rfl,_⟩
  ·exact ⟨_,rfl⟩
  ·exact ⟨_,rfl⟩
 ·rcases cases2 id i h2 with ⟨rfl,rfl⟩|⟨rfl,rfl⟩<;>rcases cases2 id' i' h3 with ⟨rfl,rfl⟩|⟨rfl,rfl⟩
  ·rfl
  ·simp at h4;subst h4;exact absurd rfl (gne _ h5)
  ·simp at h5;subst h5;exact absurd rfl (gne _ h4)
  ·rfl
 ·rcases cases2 id i h2 with ⟨rfl,rfl⟩|⟨rfl,rfl⟩
  ·simp at h3;subst h3
   exact ⟨Nat.lt_of_lt_of_le hb.1 hsize,hb.2.1,.inl ⟨0,_,h0,rfl⟩⟩
  ·rcases hown c h3 with h|h
   ·have:=hH.own 1 _ c h1 h
    exact ⟨Nat.lt_of_lt_of_le this.1 hsize,this.2.1,.inl ⟨1,_,h1,h⟩⟩
   ·refine ⟨h.2,fun hI=>?_,.inr h.1⟩
    have:=(hH.imm c hI).1
    omega
 ·have:=hH.imm k hk
  exact ⟨Nat.lt_of_lt_of_le this.1 hsize,.inl hk⟩
def et (q:Nat) (s:List UInt8):V:=yV (some (q,s.length))
theorem Y5 {U:TypeId} {w:World} {I:Nat→Prop} {bl:Nat→Option BI} {v:Value} {s:List UInt8} (hr:Rep w I bl v (et 1 s)) (h1:ObRep w I bl 1 (.buf U s)):BufIs U w v s∧∃g0,bl 1=some ⟨g0,0,1⟩∧(s≠[]→g0=v.ownBlock)∧(s=[]→v= .slice none 0 0):=by
 obtain ⟨blk,hb,hm⟩:=h1
 cases s with
 | nil=>exact ⟨.inl ⟨hr.inv_nils,rfl⟩,blk,hb,fun h=>absurd rfl h,fun _=>hr.inv_nils⟩
 | cons c s=>
   rcases Rep.inv_sl (id:=1) (off:=0) (len:=(c::s).length) hr with ⟨base,z,_,_,h,_⟩|⟨a,i,_,h,_⟩|⟨cap,b,base,z,n,e,hbl,hsh,hsz,hlc,hcm,hv⟩
   ·simp at h
   ·simp at h
   ·rw [hb] at hbl
    simp only [Option.some.injEq,BI.mk.injEq] at hbl
    obtain ⟨rfl,rfl,rfl⟩:=hbl
    obtain ⟨cur,hg,hle,hcell⟩:=hm
    simp only [World.shape?,hg,Option.some.injEq,Prod.mk.injEq] at hsh
    obtain ⟨rfl,rfl⟩:=hsh
    subst hv
    exact ⟨.inr ⟨b,cap,cur,by simp,by simp,hg,hlc,hcm,by omega,hcell⟩,some b,hb,fun _=>by simp [Value.ownBlock],fun h=>by cases h⟩
theorem eu {U:TypeId} {w:World} {I:Nat→Prop} {bl:Nat→Option BI} {v:Value} {s:List UInt8} (h:BufIs U w v s) (hb:bl 1=some ⟨v.ownBlock,0,1⟩):Rep w I bl v (et 1 s)∧ObRep w I bl 1 (.buf U s)∧v.oneCell'=true:=by
 rcases h with ⟨rfl,rfl⟩|⟨g,cap,cur,rfl,hne,hg,hlc,hcm,hcs,hcell⟩
 ·exact ⟨.pure _ _ .nils,⟨none,hb,rfl⟩,rfl⟩
 ·refine ⟨?_,⟨some g,hb,cur,hg,by omega,hcell⟩,rfl⟩
  have hsl:et 1 s= .sl 1 0 s.length:=by
   cases s with
   | nil=>exact absurd rfl hne
   | cons c s=>rfl
  rw [hsl]
  have:=Rep.sl (w:=w) (I:=I) (bl:=bl) 1 0 s.length cap g 0 1 cur.size U hb (by simp [World.shape?,hg]) (by omega) hlc hcm
  simpa using this
theorem cO:∃i,Tryz.prog.info? 5=some i∧i.zero=some (.int .u8 0)∧i.size=1∧i.bytes=1:=by
 have h:(Tryz.prog.info? 5).map (fun i=>(i.zero,i.size,i.bytes))=some (some (.int .u8 0),1,1):=by kernel_rfl
 obtain ⟨i,hi,e⟩:=Option.map_eq_some_iff.1 h
 simp only [Prod.mk.injEq] at e
 exact ⟨i,hi,e.1,e.2.1,e.2.2⟩
structure CFrame (w w':World) (b:Nat):Prop where
 os:w'.os=w.os
 tape:w'.tape=w.tape
 output:w'.output=w.output
 size:w'.heap.size=w.heap.size
 block:∀k,k≠b→w'.heap[k]?=w.heap[k]?
 shape:∀b s,w.shape? b=some s→w'.shape? b=some s
theorem IM {w:World} {b:Nat} {c0 c1:Value} {T:TypeId} (hb:w.heap[b]?=some (.cells #[c0,c1] T (0,0))) (o:Nat) (v:Value):
 CFrame w (w.setCell ⟨b,o,none⟩ v) b∧(w.setCell ⟨b,o,none⟩ v).heap[b]?=some (.cells (#[c0,c1].setIfInBounds o v) T (0,0)):=by
 have h1:(w.setCell ⟨b,o,none⟩ v).heap[b]?=some (.cells (#[c0,c1].setIfInBounds o v) T (0,0)):=by
  simp [World.setCell,Array.getElem?_modify,hb]
 have h2:∀k,k≠b→(w.setCell ⟨b,o,none⟩ v).heap[k]?=w.heap[k]?:=fun k hk=>Below.heap_setCell _ _ _ _ (fun e=>hk (by simp [e]))
 refine ⟨⟨rfl,rfl,rfl,by simp [World.setCell],h2,fun k s hs=>?_⟩,h1⟩
 by_cases hk:k=b
 ·subst hk
  simp only [World.shape?,hb,Option.some.injEq] at hs
  subst hs
  simp [World.shape?,h1]
 ·simpa [World.shape?,h2 k hk] using hs
theorem CFrame.refl (w:World) (b:Nat):CFrame w w b:=⟨rfl,rfl,rfl,rfl,fun _ _=>rfl,fun _ _ h=>h⟩
theorem ev (b:Nat) (p v:Value) (w:World) (hb:w.heap[b]?=some (.cells #[p,v] 138 (0,0))) (hp:p= .pointer none∨p= .pointer (some ⟨b,0,none⟩)):
 Calls Tryz.prog 96 #[.pointer (some ⟨b,0,none⟩)] w fun e w'=>e= .returned (.tuple #[])∧w'.heap[b]?=some (.cells #[.pointer (some ⟨b,0,none⟩),v] 138 (0,0))∧CFrame w w' b:=by
 rcases hp with rfl|rfl
 ·refine (Y4 b w (by rw [Lib.cell_of_heap hb];rfl) (by simp [World.shape?,hb]) (Lib.frozen_of_heap hb 0)).mono ?_
  rintro e w' ⟨rfl,rfl⟩
  have h:=IM hb 0 (.pointer (some ⟨b,0,none⟩))
  exact ⟨rfl,h.2,h.1⟩
 ·refine (cN b w (by rw [Lib.cell_of_heap hb];rfl)).mono ?_
  rintro e w' ⟨rfl,rfl⟩
  exact ⟨rfl,hb,CFrame.refl _ _⟩
structure WFrame (w w':World) (b:Nat) (v v':Value):Prop where
 os:w'.os=w.os
 tape:w'.tape=w.tape
 output:w'.output=w.output
 size:w.heap.size≤w'.heap.size
 block:∀k,k < w.heap.size→k≠b→v.ownBlock≠some k→w'.heap[k]?=w.heap[k]?
 shape:∀b s,w.shape? b=some s→w'.shape? b=some s
 own:∀g,v'.ownBlock=some g→v.ownBlock=some g∨(w.heap.size≤g∧g < w'.heap.size)
theorem WFrame.mk3 {w w1 w2 w3:World} {b:Nat} {v v':Value} (h1:CFrame w w1 b) (h2:BFrame w1 w2 v v') (h3:CFrame w2 w3 b):WFrame w w3 b v v':=
 ⟨h3.os.trans (h2.os.trans h1.os),h3.tape.trans (h2.tape.trans h1.tape),h3.output.trans (h2.output.trans h1.output),by rw [h3.size,←h1.size];exact h2.size,
   fun k hk hkb hv=>(h3.block k hkb).trans ((h2.block k (by rw [h1.size];exact hk) hv).trans (h1.block k hkb)),fun b s hs=>h3.shape b s (h2.shape b s (h1.shape b s hs)),
   fun g hg=>(h2.own g hg).imp id (fun h=>by rw [h3.size,←h1.size];exact h)⟩
theorem BufIs.other {U:TypeId} {w w':World} {v:Value} {s:List UInt8} (h:BufIs U w v s) (hb:∀g,v.ownBlock=some g→w'.heap[g]?=w.heap[g]?):BufIs U w' v s:=by
 rcases h with h|⟨g,cap,cur,rfl,h2,h3,h4⟩
 ·exact .inl h
 ·exact .inr ⟨g,cap,cur,rfl,h2,by rw [hb g rfl];exact h3,h4⟩
theorem KF {U T:TypeId} {w:World} {v:Value} {s:List UInt8} {b:Nat} {cs:Array Value} {fr:Nat×Nat} (h:BufIs U w v s) (hb:w.heap[b]?=some (.cells cs T fr)) (hne:T≠U):v.ownBlock≠some b:=by
 rcases h with ⟨rfl,_⟩|⟨g,cap,cur,rfl,_,h3,_⟩
 ·simp [Value.ownBlock]
 ·intro e
  simp only [Value.ownBlock,Option.some.injEq] at e
  subst e
  rw [hb] at h3
  simp only [Option.some.injEq,Obj.cells.injEq] at h3
  exact hne h3.2.1
theorem Y6 {w:World} {b:Nat} {o:Obj} (h:w.heap[b]?=some o):b < w.heap.size:=by
 rcases Nat.lt_or_ge b w.heap.size with h'|h'
 ·exact h'
 ·simp [Array.getElem?_eq_none h'] at h
set_option maxHeartbeats 2000000 in
set_option maxRecDepth 100000 in
theorem ew (b:Nat) (p v:Value) (s:List UInt8) (t:ByteArray) (w:World) (hb:w.heap[b]?=some (.cells #[p,v] 138 (0,0))) (hp:p= .pointer none∨p= .pointer (some ⟨b,0,none⟩)) (hv:BufIs 5 w v s) (hlen:s.length+t.size≤140737488355328):
 Calls Tryz.prog 80 #[.pointer (some ⟨b,0,none⟩),.string t] w fun e w'=>e= .returned (.tuple #[.int .i64 t.size,.nilIface])∧∃v',w'.heap[b]?=some (.cells #[.pointer (some ⟨b,0,none⟩),v'] 138 (0,0))∧BufIs 5 w' v' (s++t.data.toList)∧WFrame w w' b v v':=by
 obtain ⟨i0,hi,hz0,hz1,hz2⟩:=cO
 have hvb:=KF hv hb (by decide)
 go_enter Tryz.func80,Tryz.ntmps80
 go_wp2_with (go_at_call 96;refine (ev b p v w hb hp).mono ?_)
 rintro e w1 ⟨rfl,hb1,hf1⟩
 have hv1:BufIs 5 w1 v s:=hv.other fun g hg=>hf1.block g (fun e=>hvb (e▸hg))
 have c0:w1.cell? ⟨b,0,none⟩=some (.pointer (some ⟨b,0,none⟩)):=by rw [Lib.cell_of_heap hb1];rfl
 have c1:w1.cell? ⟨b,1,none⟩=some v:=by rw [Lib.cell_of_heap hb1];rfl
 have hS:=U0 (P:=Tryz.prog) (w:=w1) (I:=fun _=>False) (bl:=fun _=>none) t
 have hL:∀w',(Builtin.lenOf (.string t)).run Tryz.prog w'= .ok (t.data.toList.length:Nat) w':=fun w'=>by have:=hS.len w';rw [List.length_map] at this;exact this
 have hF:∀w',w'.heap=w1.heap→(Builtin.firstCells 1 t.data.toList.length (.string t)).run Tryz.prog w'= .ok (t.data.toList.map VP).toArray w':=fun w' hw=>by
  have:=hS.first w' hw
  rw [List.length_map] at this
  exact this
 have hB:s.length+t.data.toList.length≤140737488355328:=by simpa using hlen
 go_wp2_with (at_builtin;refine Ta _ rfl _ _ _ _ rfl Tryz.underlying136 hi hz1 hz0 rfl hz2 (by kernel_rfl) _ s t.data.toList rfl hv1 hL hF hB ?_)
 intro v2 w2 h2 hf2
 have hb2:w2.heap[b]?=some (.cells #[.pointer (some ⟨b,0,none⟩),v] 138 (0,0)):=(hf2.block b (Y6 hb1) hvb).trans hb1
 have d0:w2.cell? ⟨b,0,none⟩=some (.pointer (some ⟨b,0,none⟩)):=by rw [Lib.cell_of_heap hb2];rfl
 have d1:w2.cell? ⟨b,1,none⟩=some v:=by rw [Lib.cell_of_heap hb2];rfl
 have f1:w2.frozen? ⟨b,1,none⟩=false:=Lib.frozen_of_heap hb2 1
 have hs:=IM hb2 1 v2
 have h2b:=KF h2 hb2 (by decide)
 have h3:=h2.other (w':=w2.setCell ⟨b,1,none⟩ v2) fun g hg=>hs.1.block g (fun e=>h2b (e▸hg))
 obtain ⟨a2,m2,n2,rfl⟩:∃a m n,v2= .slice a m n:=by obtain ⟨a,n,e⟩:=Wh h2;exact ⟨_,_,_,e⟩
 go_wp2
 go_ret2
 exact ⟨rfl,_,hs.2,h3,WFrame.mk3 hf1 hf2 hs.1⟩
set_option maxHeartbeats 2000000 in
set_option maxRecDepth 100000 in
theorem cP (b:Nat) (p v:Value) (s:List UInt8) (w:World) (hb:w.heap[b]?=some (.cells #[p,v] 138 (0,0))) (hv:BufIs 5 w v s):
 Calls Tryz.prog 82 #[.pointer (some ⟨b,0,none⟩)] w fun e w'=>e= .returned (.string ⟨s.toArray⟩)∧WFrame w w' b v (.slice none 0 0)∧w'.heap[b]?=w.heap[b]?:=by
 have hvb:=KF hv hb (by decide)
 rcases hv with ⟨rfl,rfl⟩|⟨g,cap,cur,rfl,hne,hg,hlc,hcm,hcs,hcell⟩
 ·have hUS:∀W q,(Builtin.unsafeString_ #[158,3] 9 #[.pointer q,.int .i64 0]).run Tryz.prog W= .ok (.string .empty) W:=fun W q=>Lib.run_unsafeString_none W _ _ _ q
  have c1:w.drew.cell? ⟨b,1,none⟩=some (.slice none 0 0):=by
   have:w.drew.heap[b]?=some (.cells #[p,.slice none 0 0] 138 (0,0)):=hb
   rw [Lib.cell_of_heap this];rfl
  have hSD:(Builtin.unsafeSliceData_ #[136] 158 #[.slice none 0 0]).run Tryz.prog w.drew= .ok (.pointer none) w.drew:=rfl
  go_enter Tryz.func82,Tryz.ntmps82
  go_wp2
  go_region
  all_goals (go_wp2;go_ret;exact ⟨rfl,⟨rfl,rfl,rfl,Nat.le_refl _,fun _ _ _ _=>rfl,fun _ _ h=>h,fun g hg=>by simp [Value.ownBlock] at hg⟩,rfl⟩)
 ·have hl0:s.length≠0:=by simpa using hne
  have c1:w.drew.cell? ⟨b,1,none⟩=some (.slice (some ⟨g,0,none⟩) s.length cap):=by
   have:w.drew.heap[b]?=some (.cells #[p,.slice (some ⟨g,0,none⟩) s.length cap] 138 (0,0)):=hb
   rw [Lib.cell_of_heap this];rfl
  have hSD:(Builtin.unsafeSliceData_ #[136] 158 #[.slice (some ⟨g,0,none⟩) s.length cap]).run Tryz.prog w.drew= .ok (.pointer (some ⟨g,0,none⟩)) w.drew:=
   Lib.run_unsafeSliceData_row _ _ _ _ _ _ (by omega)
  have hgd:w.drew.heap[g]?=some (.cells cur 5 (0,0)):=hg
  have hUS:(Builtin.unsafeString_ #[158,3] 9 #[.pointer (some ⟨g,0,none⟩),.int .i64 s.length]).run Tryz.prog w.drew= .ok (.string ⟨s.toArray⟩) (w.drew.freeze ⟨g,0,none⟩ s.length):=by
   refine Lib.run_unsafeString_row w.drew 158 3 9 5 Tryz.underlying158 (by kernel_rfl) g cur.size (by simp [World.shape?,hgd]) s hne (by omega) (by unfold maxLen at hcm;omega) ?_
   intro j x hx
   rw [Addr.add_lit,Lib.cell_of_heap hgd,Nat.zero_add]
   exact hcell j x hx
  go_enter Tryz.func82,Tryz.ntmps82
  go_wp2
  go_region
  all_goals go_wp2
  all_goals go_ret
  have hfr:∀k,k≠g→(w.drew.freeze ⟨g,0,none⟩ s.length).heap[k]?=w.heap[k]?:=by
   intro k hk
   unfold World.freeze
   rw [if_neg hl0]
   simp only [Array.getElem?_modify]
   rw [if_neg (fun e=>hk e.symm)]
   rfl
  have hgb:g≠b:=by simpa [Value.ownBlock] using hvb
  have hsh:∀b s',w.shape? b=some s'→(w.drew.freeze ⟨g,0,none⟩ s.length).shape? b=some s':=by
   intro k s' hs
   by_cases hk:k=g
   ·subst hk
    simp only [World.shape?,hg] at hs
    unfold World.freeze
    rw [if_neg hl0]
    simp only [World.shape?,Array.getElem?_modify,hgd]
    exact hs
   ·simpa [World.shape?,hfr k hk] using hs
  have hsz:(w.drew.freeze ⟨g,0,none⟩ s.length).heap.size=w.heap.size:=by
   unfold World.freeze
   rw [if_neg hl0]
   simp
  have hrest:(w.drew.freeze ⟨g,0,none⟩ s.length).os=w.os∧(w.drew.freeze ⟨g,0,none⟩ s.length).tape=w.tape∧(w.drew.freeze ⟨g,0,none⟩ s.length).output=w.output:=by
   unfold World.freeze
   rw [if_neg hl0]
   exact ⟨rfl,rfl,rfl⟩
  all_goals exact ⟨rfl,⟨hrest.1,hrest.2.1,hrest.2.2,by rw [hsz];exact Nat.le_refl _,fun k hk hkb hv=>hfr k (fun e=>hv (by simp [Value.ownBlock,e])),hsh,fun g hg=>by simp [Value.ownBlock] at hg⟩,hfr b (fun e=>hgb e.symm)⟩
end Go.Proofs.YtkaiffheakalmaaGreatDoor
