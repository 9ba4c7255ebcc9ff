/- Copied, stripped. No conditions. -/
import Derived.Test.YtkaiffheakalmaaGreatDoorU9TlZp
import Derived.Test.YtkaiffheakalmaaGreatDoorU9TlZb
import Derived.Test.YtkaiffheakalmaaGreatDoorU9TlZa
import Derived.Test.YtkaiffheakalmaaGreatDoorU9TlZm
import Derived.Test.YtkaiffheakalmaaGreatDoorU9TlZn
set_option linter.unusedSimpArgs false
set_option linter.unusedVariables false
set_option maxRecDepth 100000
namespace Go.Proofs.YtkaiffheakalmaaGreatDoor
open Go.RowKit
theorem O3 (ms:List Mc) (h7:ms.length=7):∀(i:Nat) (m:Mc),ms[i]?=some m→((nmsC.zip ms).getD i Nv).2=m:=by
  intro i m hm
  have hi:i < 7:=by rw [←h7];exact (List.getElem?_eq_some_iff.1 hm).1
  obtain ⟨a,b,c,d,e,f,g,rfl⟩:∃a b c d e f g,ms=[a,b,c,d,e,f,g]:=by
    match ms,h7 with
    | [a,b,c,d,e,f,g],_=>exact ⟨a,b,c,d,e,f,g,rfl⟩
  obtain rfl|rfl|rfl|rfl|rfl|rfl|rfl:i=0∨i=1∨i=2∨i=3∨i=4∨i=5∨i=6:=by omega
  all_goals (cases hm;rfl)
theorem Ve:∀m∈[gB,gC,d4,gE,gG,gH,cn,gI,gJ,gK,VM,VN,Ja],Nu 7 m=true:=by decide +kernel
theorem eG {h:Ch} (hk:h.ok):∀(i:Nat) (m:Mc),(Qp h)[i]?=some m→m∈[gB,gC,d4,gE,gG,gH,cn,gI,gJ,gK,VM,VN,Ja]:=by
  obtain ⟨a,b,c,d,e,f⟩:=h
  obtain ⟨ha,hb,hc,hd,he,hf⟩:=hk
  dsimp only at ha hb hc hd he hf
  have g4:∀(l:List Mc) (n i:Nat),l.length=n→i < n→(∀m∈l,m∈[gB,gC,d4,gE,gG,gH,cn,gI,gJ,gK,VM,VN,Ja])→l.getD i Ja∈[gB,gC,d4,gE,gG,gH,cn,gI,gJ,gK,VM,VN,Ja]:=by
    intro l n i hl hi hm
    rw [List.getD_eq_getElem?_getD,List.getElem?_eq_getElem (by omega)]
    exact hm _ (List.getElem_mem _)
  intro i m hm
  have hi:i < 7:=(List.getElem?_eq_some_iff.1 hm).1
  obtain rfl|rfl|rfl|rfl|rfl|rfl|rfl:i=0∨i=1∨i=2∨i=3∨i=4∨i=5∨i=6:=by omega
  . cases hm;exact g4 _ 4 a rfl ha (by intro m hm;simp only [m0L,List.mem_cons,List.not_mem_nil,or_false] at hm;rcases hm with rfl|rfl|rfl|rfl<;>simp)
  . cases hm;exact g4 _ 3 b rfl hb (by intro m hm;simp only [m1L,List.mem_cons,List.not_mem_nil,or_false] at hm;rcases hm with rfl|rfl|rfl<;>simp)
  . cases hm;exact g4 _ 2 c rfl hc (by intro m hm;simp only [m2L,List.mem_cons,List.not_mem_nil,or_false] at hm;rcases hm with rfl|rfl<;>simp)
  . cases hm;exact g4 _ 3 d rfl hd (by intro m hm;simp only [m3L,List.mem_cons,List.not_mem_nil,or_false] at hm;rcases hm with rfl|rfl|rfl<;>simp)
  . cases hm;exact g4 _ 3 e rfl he (by intro m hm;simp only [m4L,List.mem_cons,List.not_mem_nil,or_false] at hm;rcases hm with rfl|rfl|rfl<;>simp)
  . cases hm;exact g4 _ 2 f rfl hf (by intro m hm;simp only [m2L,List.mem_cons,List.not_mem_nil,or_false] at hm;rcases hm with rfl|rfl<;>simp)
  . cases hm;simp
structure SchOk (h:Ch) (Z:List Int):Prop where
  len:Z.length=7
  pos:∀x∈Z,1≤x∧x≤150
  new:Fn1G Tryz.prog GT 16 [.lst ((Qo h).map DH)] (fun r=>r= .tup [.rp [.lst ((Qo h).map DH),.lst ((Qp h).map Bs),AY Z],.int .i64 0])
  sizes:Fn1G Tryz.prog GT 8 [.lst ((Qo h).map DH)] (fun r=>r= .tup [AY Z,.int .i64 0])
  bound:∀k,k < 6→Z.getD k 0≤1+YX Z ((jJ h).getD k aE)
theorem eH (l:List Ty):BN (l.map DH):=by
  induction l with
  | nil=>trivial
  | cons t l ih=>exact ⟨⟨trivial,trivial,trivial,trivial⟩,ih⟩
theorem eI {h:Ch} (hk:h.ok):∃Z,SchOk h Z:=by
  have hc:=aF hk
  unfold eF at hc
  split at hc
  . cases hc
  rename_i Z hrun
  simp only [Bool.and_eq_true,decide_eq_true_eq,List.all_eq_true,List.mem_range] at hc
  obtain ⟨⟨hZl,hZb⟩,hbd⟩:=hc
  have hL:∀i,i < (nmsC.zip (Qp h)).length→Nu zer7.length ((nmsC.zip (Qp h)).getD i Nv).2=true:=by
    intro i hi
    have hi7:i < 7:=hi
    obtain ⟨m,hm⟩:∃m,(Qp h)[i]?=some m:=⟨_,List.getElem?_eq_getElem hi7⟩
    rw [O3 (Qp h) rfl i m hm]
    exact Ve m (eG hk i m hm)
  obtain ⟨R,h1,h2,h3,h4,h5⟩:=T4 (nmsC.zip (Qp h)) 20 zer7 Z hL hrun
  have hmo:=fun i hi=>YM hk i hi
  have hnew:Fn1G Tryz.prog GT 16 [.lst ((Qo h).map DH)] (fun r=>r= .tup [.rp [.lst ((Qo h).map DH),.lst ((Qp h).map Bs),AY Z],.int .i64 0]):=by
    have hn:=YE (Qo h) (Qp h) rfl (show 1≤7 by omega) (show 7≤8 by omega) ?_ ?_ ?_ ?_ ?_ R (by omega) (by show (HG (nmsC.zip (Qp h)) R zer7).2=false;rw [h3]) h4
      (fun k hk' i m hm=>by
        have hi:i < 7:=(List.getElem?_eq_some_iff.1 hm).1
        have:=(h5 k hk' i hi).1
        rw [O3 (Qp h) rfl i m hm] at this
        exact this)
      (fun k hk' i m hm=>by
        have hi:i < 7:=(List.getElem?_eq_some_iff.1 hm).1
        have:=(h5 k hk' i hi).2
        rw [O3 (Qp h) rfl i m hm] at this
        exact this)
      (by
        show ∀x∈(HG (nmsC.zip (Qp h)) R zer7).1,x≠0∧x≤150
        rw [h3]
        intro x hx
        have:=hZb x hx
        omega)
    . have e:(HG (CP (Qo h) (Qp h)) R (List.replicate (Qo h).length 0)).1=Z:=by
        show (HG (nmsC.zip (Qp h)) R zer7).1=Z
        rw [h3]
      rw [e] at hn
      exact hn
    . intro t ht
      simp only [Qo,List.mem_cons,List.not_mem_nil,or_false] at ht
      rcases ht with rfl|rfl|rfl|rfl|rfl|rfl|rfl
      all_goals first|exact .inl rfl|exact .inr (by dsimp only;decide)
    . show ([[100,111,99],[112],[104,49],[117,108],[108,105],[101,109],[]]:List (List UInt8)).Nodup
      decide
    . intro t ht
      simp only [Qo,List.mem_cons,List.not_mem_nil,or_false] at ht
      rcases ht with rfl|rfl|rfl|rfl|rfl|rfl|rfl
      . exact Dk _ _ _ (by dsimp only;decide)
      . exact Dk _ _ _ (by dsimp only;decide)
      . exact Dk _ _ _ (by dsimp only;decide)
      . exact Dk _ _ _ (by dsimp only;decide)
      . exact Dk _ _ _ (by dsimp only;decide)
      . exact Dk _ _ _ (by dsimp only;decide)
      . exact VU
    . intro t ht
      simp only [Qo,List.mem_cons,List.not_mem_nil,or_false] at ht
      rcases ht with rfl|rfl|rfl|rfl|rfl|rfl|rfl
      all_goals exact ⟨by simp,by intro s hs;first|(simp at hs;done)|(simp at hs;subst hs;decide),by simp⟩
    . intro i t m ht hm
      have hi:i < 7:=(List.getElem?_eq_some_iff.1 hm).1
      obtain ⟨t',x,m',h1',_,h2',hok⟩:=hmo i hi
      rw [ht] at h1'
      rw [hm] at h2'
      cases h1'
      cases h2'
      exact hok.mach
  exact ⟨Z,hZl,hZb,hnew,SN _ _ _ (eH _) hnew,hbd⟩
end Go.Proofs.YtkaiffheakalmaaGreatDoor
namespace Go.Proofs.YtkaiffheakalmaaGreatDoor
open Go.RowKit
def KD (a b:List Bool) (k:Nat):List Bool:=(Ix a b).take k++List.replicate (a.length - k) false
theorem aG {a b:List Bool} (h:a.length=b.length) {k:Nat} (hk:k≤a.length):(KD a b k).length=a.length:=by
  have:=MJ (n:=a.length) rfl h.symm
  unfold KD
  rw [List.length_append,List.length_take,List.length_replicate]
  omega
theorem YN {a b:List Bool} (h:a.length=b.length) {k:Nat} {x y:Bool} (hx:a[k]?=some x) (hy:b[k]?=some y):(KD a b k).set k (x || y)=KD a b (k+1):=by
  have hk:=(List.getElem?_eq_some_iff.1 hx).1
  have hl:=MJ (n:=a.length) rfl h.symm
  have hg:(Ix a b)[k]?=some (x || y):=by unfold Ix;rw [List.getElem?_zipWith,hx,hy]
  unfold KD
  obtain ⟨m,hm⟩:∃m,a.length - k=m+1:=⟨a.length - k - 1,by omega⟩
  rw [List.set_append_right _ _ (by rw [List.length_take];omega)]
  have e1:k - ((Ix a b).take k).length=0:=by rw [List.length_take];omega
  rw [e1,hm,List.replicate_succ,List.set_cons_zero,List.take_add_one,hg,show a.length - (k+1)=m by omega]
  simp
set_option maxHeartbeats 4000000 in
theorem FM (a b:List Bool) (h:a.length=b.length) (hn:a.length≤1000):Fn1 Tryz.prog 46 [.lst (a.map V.bool),.lst (b.map V.bool)] (fun r=>r= .lst ((Ix a b).map V.bool)):=by
  have ham:(a.map V.bool).length=a.length:=by simp
  have hbm:(b.map V.bool).length=b.length:=by simp
  refine A4 (T:=Tryz.tt) Tryz.func46 rfl AR AB ?_ ?_ fun C hC hE=>?_
  . kernel_rfl
  . exact Nat.le_of_ble_eq_true (by kernel_rfl)
  conv=>whnf
  repeat' (first|(refine Af (by first|assumption|omega) ?_;conv=>whnf)|(intro hlen;conv=>whnf))
  refine Ae (fun k:Nat=>⟨30,[(0,.lst (a.map V.bool)),(1,.lst (b.map V.bool)),(5,.sl 0 0 a.length),(11,.int .i64 a.length),(12,.int .i64 k)],[some (.row 1 ((KD a b k).map V.bool))]⟩) (fun k=>k≤a.length) (fun k=>a.length - k) 0 hE ?_ ?_ (Nat.zero_le _) ?_
  . kernel_rfl
  . refine AU [0,1,5,11,12] ?_
    conv=>whnf
    rw [ham,Int.toNat_natCast]
    show (⟨30,_,[some (.row 1 (List.replicate a.length (V.bool false)))]⟩:ES)=⟨30,_,[some (.row 1 ((KD a b 0).map V.bool))]⟩
    unfold KD
    rw [List.take_zero,List.nil_append,List.map_replicate]
    rfl
  intro k hk
  have hel:=aG h hk
  have hem:((KD a b k).map V.bool).length=a.length:=by rw [List.length_map];exact hel
  by_cases hlt:k < a.length
  . obtain ⟨x,hx⟩:∃x,a[k]?=some x:=⟨_,List.getElem?_eq_getElem hlt⟩
    obtain ⟨y,hy⟩:∃y,b[k]?=some y:=⟨_,List.getElem?_eq_getElem (by omega)⟩
    have gx:(a.map V.bool)[k]?=some (.bool x):=by rw [List.getElem?_map,hx];rfl
    have gy:(b.map V.bool)[k]?=some (.bool y):=by rw [List.getElem?_map,hy];rfl
    obtain ⟨z,hz⟩:∃z,(KD a b k)[k]?=some z:=⟨_,List.getElem?_eq_getElem (by omega)⟩
    have gz:((KD a b k).map V.bool)[0+Int.toNat (k:Int)]?=some (.bool z):=by rw [Nat.zero_add,Int.toNat_natCast,List.getElem?_map,hz];rfl
    have hnx:=YN h hx hy
    cases x<;>cases y
    all_goals
      conv=>whnf
      repeat' (first|(refine AN (by first|assumption|omega) ?_;conv=>whnf)|(refine Af (by first|assumption|omega) ?_;conv=>whnf)|(refine AS (by omega) ?_;conv=>whnf)|(refine AQ (by assumption) ?_;conv=>whnf))
      refine AJ [0,1,5,11,12] (k+1) hlt (by omega) ?_
      conv=>whnf
      rw [Nat.zero_add,Int.toNat_natCast,←hnx,List.map_set]
      rfl
  . conv=>whnf
    repeat' (first|(refine AM (by first|assumption|omega) ?_;conv=>whnf)|(refine Ca (BM 0 4 [] rfl (Fz _) rfl (by omega) rfl (AP ?_)))|(refine AH hE ?_;conv=>whnf))
    all_goals first
      | (exfalso;omega)
      | (refine ⟨rfl,?_⟩
         obtain rfl:k=a.length:=by omega
         unfold KD
         rw [Nat.sub_self,List.take_of_length_le (by rw [MJ (n:=a.length) rfl h.symm];exact Nat.le_refl _)]
         simp)
theorem Jv (a b:List Bool):Fn1 Tryz.prog 47 [.lst (a.map V.bool),.lst (b.map V.bool)] (fun r=>r= .bool (decide (a=b))):=by
  have hlm:(a.map V.bool).length=a.length:=by simp
  have hlm':(b.map V.bool).length=b.length:=by simp
  by_cases hab:a.length=b.length
  . refine A4 (T:=Tryz.tt) Tryz.func47 rfl AR AB ?_ ?_ fun C hC hE=>?_
    . kernel_rfl
    . exact Nat.le_of_ble_eq_true (by kernel_rfl)
    conv=>whnf
    repeat' (first|(refine AN (by first|assumption|omega) ?_;conv=>whnf)|(intro hlen;conv=>whnf))
    refine Ae (fun k:Nat=>⟨26,[(0,.lst (a.map V.bool)),(1,.lst (b.map V.bool)),(12,.int .i64 (a.map V.bool).length),(13,.int .i64 k)],[]⟩) (fun k=>k≤a.length∧∀j < k,a[j]?=b[j]?) (fun k=>a.length - k) 0 hE ?_ ?_ ⟨Nat.zero_le _,fun j hj=>by omega⟩ ?_
    . kernel_rfl
    . exact AU [0,1,12,13] rfl
    intro k hk
    obtain ⟨hk,hj⟩:=hk
    by_cases hlt:k < a.length
    . obtain ⟨x,hx⟩:∃x,a[k]?=some x:=⟨_,List.getElem?_eq_getElem hlt⟩
      obtain ⟨y,hy⟩:∃y,b[k]?=some y:=⟨_,List.getElem?_eq_getElem (by omega)⟩
      have gx:(a.map V.bool)[k]?=some (.bool x):=by rw [List.getElem?_map,hx];rfl
      have gy:(b.map V.bool)[k]?=some (.bool y):=by rw [List.getElem?_map,hy];rfl
      cases x<;>cases y
      all_goals
        conv=>whnf
        repeat' (first|(refine AN (by first|assumption|omega) ?_;conv=>whnf)|(refine Af (by first|assumption|omega) ?_;conv=>whnf)|(refine AS (by omega) ?_;conv=>whnf)|(refine AQ (by assumption) ?_;conv=>whnf)|(refine BW hE ?_ ?_;decide +kernel;conv=>whnf)|(refine AH hE ?_;conv=>whnf))
        all_goals first
          | (refine ⟨rfl,?_⟩
             rw [decide_eq_false]
             intro e
             rw [e,hy] at hx
             cases hx)
          | (refine AJ [0,1,12,13] (k+1) ⟨hlt,fun j hjk=>?_⟩ (show a.length - (k+1) < a.length - k by omega) rfl
             by_cases e:j=k
             . subst e
               rw [hx,hy]
             . exact hj j (by omega))
    . conv=>whnf
      repeat' (first|(refine AM (by first|assumption|omega) ?_;conv=>whnf)|(refine AH hE ?_;conv=>whnf))
      refine ⟨rfl,?_⟩
      rw [decide_eq_true]
      apply List.ext_getElem?
      intro j
      by_cases h:j < a.length
      . exact hj j (by omega)
      . rw [List.getElem?_eq_none (by omega),List.getElem?_eq_none (by omega)]
  . refine A4 (T:=Tryz.tt) Tryz.func47 rfl AR AB ?_ ?_ fun C hC hE=>?_
    . kernel_rfl
    . exact Nat.le_of_ble_eq_true (by kernel_rfl)
    conv=>whnf
    repeat' (first|(refine AM (by first|assumption|omega) ?_;conv=>whnf)|(refine AH hE ?_;conv=>whnf)|(intro hlen;conv=>whnf))
    exact ⟨rfl,by rw [decide_eq_false (fun e=>hab (by rw [e]))]⟩
theorem Qq (l:List Bool) (hl:l.length≤1000) (h1:1≤l.length):Fn1 Tryz.prog 45 [.lst (l.map V.bool)] (fun r=>r= .lst (l.map V.bool)):=by
  have hlm:(l.map V.bool).length=l.length:=by simp
  have hcl:∀y∈l.map V.bool,y.cells.length=1:=fun y hy=>by obtain ⟨q,_,rfl⟩:=List.mem_map.1 hy;rfl
  have hkl:AK 0 (List.take 0 (List.drop 0 [])++l.map V.bool)=l.map V.bool:=by rw [List.drop_nil,List.take_nil,List.nil_append,AA _ (Fz l)]
  refine A4 (T:=Tryz.tt) Tryz.func45 rfl AR AB ?_ ?_ fun C hC hE=>?_
  . kernel_rfl
  . exact Nat.le_of_ble_eq_true (by kernel_rfl)
  conv=>whnf
  repeat' (first|(refine Af (by first|assumption|omega) ?_;conv=>whnf)|(refine ⟨hcl,?_⟩;conv=>whnf)|(refine Ca (BM 0 2 [] rfl ?_ rfl ?_ rfl (AP ?_)))|(refine br (fun h=>?_) (fun h=>?_)<;>conv=>whnf)|(refine AH hE ?_;conv=>whnf)|(intro hlen;conv=>whnf))
  . have h0:l=[]:=by have:=hlen (by assumption);simpa using this
    subst h0
    simp at h1
  . rw [hkl];exact Fz l
  . rw [hkl];omega
  . rw [hkl];exact ⟨rfl,rfl⟩
end Go.Proofs.YtkaiffheakalmaaGreatDoor
namespace Go.Proofs.YtkaiffheakalmaaGreatDoor
open Go.RowKit
theorem YO {ps:List Ex} {k:Nat} {p:Ex} (h:ps[k]?=some p) (w:List Int) (f:List Bool):Ay (A0 p) w (Ay (E0 (ps.take k)) w f)=Ay (E0 (ps.take (k+1))) w f:=by
  rw [Qm,List.take_add_one,h]
  exact MI (fun v=>(VY _ _ v).symm) w f
theorem YP {ps:List Ex} {k:Nat} {p:Ex} (h:ps[k]?=some p) (w:List Int) (f:List Bool):Ix (Ay (B4 (ps.take k)) w f) (Ay (A0 p) w f)=Ay (B4 (ps.take (k+1))) w f:=by
  rw [T7,List.take_add_one,h]
  exact MI (fun v=>(VX _ _ v).symm) w f
theorem MM {k t:Int} {ps:List Ex} (h4:4≤k) (h:CF k t ps.length=false):∃p,ps=[p]:=by
  unfold CF at h
  simp only [Bool.or_eq_false_iff,decide_eq_false_iff_not] at h
  have:ps.length=1:=by
    have:=h.2
    omega
  match ps,this with
  | [p],_=>exact ⟨p,rfl⟩
set_option maxHeartbeats 16000000 in
theorem SP (w:List Int) (hw:w.length≤40):∀(N:Nat) (k t:Int) (ps:List Ex) (f:List Bool),A7 ps≤N→N≤1048576→Lg (.mk k t ps)=0→f.length=w.length+1→
    Fn1 Tryz.prog 21 [.agg [.int .i64 k,.int .i64 t,.lst (ps.map Ai)],AY w,.lst (f.map V.bool)] (fun r=>r= .lst ((Ay (A0 (.mk k t ps)) w f).map V.bool)):=by
  intro N
  induction N using Nat.strongRecOn with
  | _ N ih=>
    intro k t ps f hps hN hok hf
    obtain ⟨hk,hfo,ht,hfl⟩:=cb hok
    have hlm:(ps.map Ai).length=ps.length:=by simp
    have hwm:(w.map (V.int .i64)).length=w.length:=by simp
    have hfm:(f.map V.bool).length=f.length:=by simp
    have hll:=D2 ps
    have hcl:=Qq f (by omega) (by omega)
    have ihp:∀{j:Nat} {a u:Int} {qs:List Ex} (g:List Bool),ps[j]?=some (.mk a u qs)→g.length=w.length+1→Fn1 Tryz.prog 21 [.agg [.int .i64 a,.int .i64 u,.lst (qs.map Ai)],AY w,.lst (g.map V.bool)] (fun r=>r= .lst ((Ay (A0 (.mk a u qs)) w g).map V.bool)):=fun g hx hg=>by
      have hmem:=List.mem_of_getElem? hx
      have hp2:=Eo hmem
      rw [CV] at hp2
      exact ih _ (by omega) _ _ _ g (Nat.le_refl _) (by omega) (Oa hfl _ hmem) hg
    have hcases:k=1∨k=2∨k=3∨k=4∨k=5∨k=6:=by omega
    unfold AY
    rcases hcases with rfl|rfl|rfl|rfl|rfl|rfl
    . -- One
      rw [Qi,←YI]
      refine A4 (T:=Tryz.tt) Tryz.func21 rfl AR AB ?_ ?_ fun C hC hE=>?_
      . kernel_rfl
      . exact Nat.le_of_ble_eq_true (by kernel_rfl)
      conv=>whnf
      repeat' (first|(refine AN (by first|assumption|omega) ?_;conv=>whnf)|(refine Af (by first|assumption|omega) ?_;conv=>whnf)|(intro hlen;conv=>whnf))
      refine Ae (fun j:Nat=>⟨114,[(1,.lst (w.map (V.int .i64))),(2,.lst (f.map V.bool)),(3,.ptr 0 0 0),(7,.sl 1 0 (w.length+1)),(48,.lst (w.map (V.int .i64))),(49,.int .i64 (w.map (V.int .i64)).length),(50,.int .i64 j)],[some (.row 3 [.agg [.int .i64 1,.int .i64 t,.lst (ps.map Ai)]]),some (.row 1 ((Gz t w f j).map V.bool))]⟩)
        (fun j=>j≤w.length) (fun j=>w.length - j) 0 hE ?_ ?_ (Nat.zero_le _) ?_
      . kernel_rfl
      . refine AU [1,2,3,7,48,49,50] ?_
        conv=>whnf
        rw [hfm,Int.toNat_natCast,hf]
        show (⟨114,_,[_,some (.row 1 (List.replicate (w.length+1) (V.bool false)))]⟩:ES)=⟨114,_,[_,some (.row 1 ((Gz t w f 0).map V.bool))]⟩
        rw [YG,List.map_replicate]
        rfl
      intro j hj
      have hol:=T8 t w f j
      have hom:((Gz t w f j).map V.bool).length=w.length+1:=by rw [List.length_map];exact hol
      by_cases hlt:j < w.length
      . obtain ⟨x,hx⟩:∃x,w[j]?=some x:=⟨_,List.getElem?_eq_getElem hlt⟩
        obtain ⟨y,hy⟩:∃y,f[j]?=some y:=⟨_,List.getElem?_eq_getElem (by omega)⟩
        have gx:(w.map (V.int .i64))[j]?=some (.int .i64 x):=by rw [List.getElem?_map,hx];rfl
        have gy:(f.map V.bool)[j]?=some (.bool y):=by rw [List.getElem?_map,hy];rfl
        obtain ⟨z,hz⟩:∃z,(Gz t w f j)[j+1]?=some z:=⟨_,List.getElem?_eq_getElem (by omega)⟩
        have gz:((Gz t w f j).map V.bool)[0+Int.toNat ((j:Int)+1)]?=some (.bool z):=by rw [Nat.zero_add,show Int.toNat ((j:Int)+1)=j+1 by omega,List.getElem?_map,hz];rfl
        have hnx:=YH (t:=t) hx hy
        cases y<;>by_cases hxt:x=t
        all_goals
          conv=>whnf
          repeat' (first|(refine AN (by first|assumption|omega) ?_;conv=>whnf)|(refine AM (by first|assumption|omega) ?_;conv=>whnf)|(refine Af (by first|assumption|omega) ?_;conv=>whnf)|(refine AS (by omega) ?_;conv=>whnf)|(refine AQ (by assumption) ?_;conv=>whnf))
          refine AJ [1,2,3,7,48,49,50] (j+1) hlt (by omega) ?_
          conv=>whnf
          rw [Nat.zero_add,show Int.toNat ((j:Int)+1)=j+1 by omega,hnx,List.map_set]
          first|rfl|(rw [decide_eq_true hxt];rfl)|(rw [decide_eq_false hxt];rfl)
      . conv=>whnf
        repeat' (first|(refine AM (by first|assumption|omega) ?_;conv=>whnf)|(refine Ca (BM 1 6 [] rfl (Fz _) rfl (by omega) rfl (AP ?_)))|(refine AH hE ?_;conv=>whnf))
        all_goals first
          | (exfalso;omega)
          | (obtain rfl:j=w.length:=by omega
             exact ⟨rfl,rfl⟩)
    . -- Seq
      rw [Qj]
      refine A4 (T:=Tryz.tt) Tryz.func21 rfl AR AB ?_ ?_ fun C hC hE=>?_
      . kernel_rfl
      . exact Nat.le_of_ble_eq_true (by kernel_rfl)
      conv=>whnf
      repeat' (first|(refine AN (by first|assumption|omega) ?_;conv=>whnf)|(refine AM (by first|assumption|omega) ?_;conv=>whnf)|(refine Af (by first|assumption|omega) ?_;conv=>whnf)|(refine AC (hcl) hC E3 ?_ ?_ ?_;kernel_rfl;kernel_rfl;conv=>whnf)|(intro hlen;conv=>whnf))
      refine Ae (fun j:Nat=>⟨114,[(1,.lst (w.map (V.int .i64))),(2,.lst (f.map V.bool)),(7,.lst ((Ay (E0 (ps.take j)) w f).map V.bool)),(75,.lst (ps.map Ai)),(76,.int .i64 (ps.map Ai).length),(77,.int .i64 j)],[]⟩)
        (fun j=>j≤ps.length) (fun j=>ps.length - j) 0 hE ?_ ?_ (Nat.zero_le _) ?_
      . kernel_rfl
      . refine DP [1,2,7,75,76,77] [0,1] ?_
        conv=>whnf
        rw [show Ay (E0 (ps.take 0)) w f=f from Ql hf]
        rfl
      intro j hj
      have hsl:=BF (E0 (ps.take j)) w f
      by_cases hlt:j < ps.length
      . obtain ⟨a,u,qs,hx,hx'⟩:=P2 hlt
        have hn:=YO hx w f
        have ih':=ihp _ hx hsl
        unfold AY at ih'
        rw [hn] at ih'
        conv=>whnf
        repeat' (first|(refine AN (by first|assumption|omega) ?_;conv=>whnf)|(refine Af (by first|assumption|omega) ?_;conv=>whnf)|(refine AS (by omega) ?_;conv=>whnf)|(refine AQ (by assumption) ?_;conv=>whnf)|(refine AC (ih') hC CJ ?_ ?_ ?_;kernel_rfl;kernel_rfl;conv=>whnf))
        refine AL [1,2,7,75,76,77] [0] (j+1) hlt (by omega) ?_
        conv=>whnf
        rfl
      . obtain rfl:j=ps.length:=by omega
        rw [List.take_length]
        conv=>whnf
        repeat' (first|(refine AM (by first|assumption|omega) ?_;conv=>whnf)|(refine AH hE ?_;conv=>whnf))
        all_goals exact ⟨rfl,rfl⟩
    . -- Alt
      rw [Qk]
      refine A4 (T:=Tryz.tt) Tryz.func21 rfl AR AB ?_ ?_ fun C hC hE=>?_
      . kernel_rfl
      . exact Nat.le_of_ble_eq_true (by kernel_rfl)
      conv=>whnf
      repeat' (first|(refine AN (by first|assumption|omega) ?_;conv=>whnf)|(refine AM (by first|assumption|omega) ?_;conv=>whnf)|(refine Af (by first|assumption|omega) ?_;conv=>whnf)|(intro hlen;conv=>whnf))
      refine Ae (fun j:Nat=>⟨114,[(1,.lst (w.map (V.int .i64))),(2,.lst (f.map V.bool)),(7,.lst ((Ay (B4 (ps.take j)) w f).map V.bool)),(89,.lst (ps.map Ai)),(90,.int .i64 (ps.map Ai).length),(91,.int .i64 j)],[]⟩)
        (fun j=>j≤ps.length) (fun j=>ps.length - j) 0 hE ?_ ?_ (Nat.zero_le _) ?_
      . kernel_rfl
      . refine BM 1 7 [1,2,89,90,91] (els:=List.replicate (Int.toNat ((f.map V.bool).length:Int)) (V.bool false)) rfl ?_ rfl ?_ rfl (DP [1,2,7,89,90,91] [0] ?_)
        . rw [show List.replicate (Int.toNat ((f.map V.bool).length:Int)) (V.bool false)=(List.replicate (Int.toNat ((f.map V.bool).length:Int)) false).map V.bool by rw [List.map_replicate]]
          exact Fz _
        . rw [List.length_replicate]
        . conv=>whnf
          rw [show Ay (B4 (ps.take 0)) w f=List.replicate (w.length+1) false from aD,List.map_replicate,hfm,hf]
          rfl
      intro j hj
      have hsl:=BF (B4 (ps.take j)) w f
      by_cases hlt:j < ps.length
      . obtain ⟨a,u,qs,hx,hx'⟩:=P2 hlt
        have hn:=YP hx w f
        have ih':=ihp _ hx hf
        unfold AY at ih'
        have he:=FM (Ay (B4 (ps.take j)) w f) (Ay (A0 (.mk a u qs)) w f) (by rw [hsl,BF]) (by omega)
        rw [hn] at he
        conv=>whnf
        repeat' (first|(refine AN (by first|assumption|omega) ?_;conv=>whnf)|(refine Af (by first|assumption|omega) ?_;conv=>whnf)|(refine AS (by omega) ?_;conv=>whnf)|(refine AQ (by assumption) ?_;conv=>whnf)|(refine AC (ih') hC CJ ?_ ?_ ?_;kernel_rfl;kernel_rfl;conv=>whnf)|(refine AC (he) hC Dm ?_ ?_ ?_;kernel_rfl;kernel_rfl;conv=>whnf))
        refine AL [1,2,7,89,90,91] [0] (j+1) hlt (by omega) ?_
        conv=>whnf
        rfl
      . obtain rfl:j=ps.length:=by omega
        rw [List.take_length]
        conv=>whnf
        repeat' (first|(refine AM (by first|assumption|omega) ?_;conv=>whnf)|(refine AH hE ?_;conv=>whnf))
        all_goals exact ⟨rfl,rfl⟩
    . -- Star
      obtain ⟨⟨a,u,qs⟩,rfl⟩:=MM (by omega) hfo
      have hp0:([Ex.mk a u qs].map Ai)[0]?=some (.agg [.int .i64 a,.int .i64 u,.lst (qs.map Ai)]):=by rw [List.map_cons,Cs];rfl
      obtain ⟨P,hP⟩:∃P,[Ex.mk a u qs].map Ai=P:=⟨_,rfl⟩
      rw [hP] at hp0 hlm ⊢
      simp only [List.length_singleton] at hlm
      rw [VW,Jc]
      refine A4 (T:=Tryz.tt) Tryz.func21 rfl AR AB ?_ ?_ fun C hC hE=>?_
      . kernel_rfl
      . exact Nat.le_of_ble_eq_true (by kernel_rfl)
      conv=>whnf
      repeat' (first|(refine AM (by first|assumption|omega) ?_;conv=>whnf)|(refine Af (by first|assumption|omega) ?_;conv=>whnf)|(refine AC (hcl) hC E3 ?_ ?_ ?_;kernel_rfl;kernel_rfl;conv=>whnf)|(intro hlen;conv=>whnf))
      refine Ae (fun out:List Bool=>⟨114,[(1,.lst (w.map (V.int .i64))),(3,.ptr 0 0 0),(7,.lst (out.map V.bool))],[some (.row 3 [.agg [.int .i64 4,.int .i64 t,.lst P]])]⟩)
        (fun out=>StarI (A0 (.mk a u qs)) w f out) (fun out=>w.length+1 - Mt out) f hE ?_ ?_ (StarI.start hf) ?_
      . kernel_rfl
      . refine DP [1,3,7] [1] ?_
        conv=>whnf
        rfl
      intro out hI
      have hol:=hI.len
      have hom:(out.map V.bool).length=out.length:=by simp
      have ih':=ihp (j:=0) out rfl hol
      unfold AY at ih'
      have he:=FM out (Ay (A0 (.mk a u qs)) w out) (by rw [hol,BF]) (by omega)
      have hq:=Jv (Ix out (Ay (A0 (.mk a u qs)) w out)) out
      have hnI:=hI.next
      by_cases hd:Ix out (Ay (A0 (.mk a u qs)) w out)=out
      . have hfin:=hI.done hd
        rw [hd] at he hq
        rw [decide_eq_true rfl] at hq
        conv=>whnf
        repeat' (first|(refine Af (by first|assumption|omega) ?_;conv=>whnf)|(refine AQ (by assumption) ?_;conv=>whnf)|(refine AC (ih') hC CJ ?_ ?_ ?_;kernel_rfl;kernel_rfl;conv=>whnf)|(refine AC (he) hC Dm ?_ ?_ ?_;kernel_rfl;kernel_rfl;conv=>whnf)|(refine AC (hq) hC F8 ?_ ?_ ?_;kernel_rfl;kernel_rfl;conv=>whnf)|(refine AH hE ?_;conv=>whnf))
        all_goals exact ⟨rfl,by rw [←hfin]⟩
      . have hc:=MK (show out.length=(Ay (A0 (.mk a u qs)) w out).length by rw [hol,BF]) hd
        have hc2:=YJ (Ix out (Ay (A0 (.mk a u qs)) w out))
        rw [hnI.len] at hc2
        rw [decide_eq_false hd] at hq
        conv=>whnf
        repeat' (first|(refine Af (by first|assumption|omega) ?_;conv=>whnf)|(refine AQ (by assumption) ?_;conv=>whnf)|(refine AC (ih') hC CJ ?_ ?_ ?_;kernel_rfl;kernel_rfl;conv=>whnf)|(refine AC (he) hC Dm ?_ ?_ ?_;kernel_rfl;kernel_rfl;conv=>whnf)|(refine AC (hq) hC F8 ?_ ?_ ?_;kernel_rfl;kernel_rfl;conv=>whnf))
        all_goals exact AJ [1,3,7] _ hnI (by show _ < _;omega) rfl
    . -- Plus
      obtain ⟨⟨a,u,qs⟩,rfl⟩:=MM (by omega) hfo
      have hp0:([Ex.mk a u qs].map Ai)[0]?=some (.agg [.int .i64 a,.int .i64 u,.lst (qs.map Ai)]):=by rw [List.map_cons,Cs];rfl
      obtain ⟨P,hP⟩:∃P,[Ex.mk a u qs].map Ai=P:=⟨_,rfl⟩
      rw [hP] at hp0 hlm ⊢
      simp only [List.length_singleton] at hlm
      rw [Ny,Jc]
      have ih0:=ihp (j:=0) f rfl hf
      unfold AY at ih0
      have hsl0:=BF (A0 (.mk a u qs)) w f
      rw [←Qm]
      refine A4 (T:=Tryz.tt) Tryz.func21 rfl AR AB ?_ ?_ fun C hC hE=>?_
      . kernel_rfl
      . exact Nat.le_of_ble_eq_true (by kernel_rfl)
      conv=>whnf
      repeat' (first|(refine AN (by first|assumption|omega) ?_;conv=>whnf)|(refine AM (by first|assumption|omega) ?_;conv=>whnf)|(refine Af (by first|assumption|omega) ?_;conv=>whnf)|(refine AQ (by assumption) ?_;conv=>whnf)|(refine AC (hcl) hC E3 ?_ ?_ ?_;kernel_rfl;kernel_rfl;conv=>whnf)|(refine AC (ih0) hC CJ ?_ ?_ ?_;kernel_rfl;kernel_rfl;conv=>whnf)|(intro hlen;conv=>whnf))
      refine Ae (fun out:List Bool=>⟨114,[(1,.lst (w.map (V.int .i64))),(3,.ptr 0 0 0),(7,.lst (out.map V.bool))],[some (.row 3 [.agg [.int .i64 5,.int .i64 t,.lst P]])]⟩)
        (fun out=>StarI (A0 (.mk a u qs)) w (Ay (A0 (.mk a u qs)) w f) out) (fun out=>w.length+1 - Mt out) (Ay (A0 (.mk a u qs)) w f) hE ?_ ?_ (StarI.start hsl0) ?_
      . kernel_rfl
      . refine DP [1,3,7] [1] ?_
        conv=>whnf
        rfl
      intro out hI
      have hol:=hI.len
      have hom:(out.map V.bool).length=out.length:=by simp
      have ih':=ihp (j:=0) out rfl hol
      unfold AY at ih'
      have he:=FM out (Ay (A0 (.mk a u qs)) w out) (by rw [hol,BF]) (by omega)
      have hq:=Jv (Ix out (Ay (A0 (.mk a u qs)) w out)) out
      have hnI:=hI.next
      by_cases hd:Ix out (Ay (A0 (.mk a u qs)) w out)=out
      . have hfin:=hI.done hd
        rw [hd] at he hq
        rw [decide_eq_true rfl] at hq
        conv=>whnf
        repeat' (first|(refine Af (by first|assumption|omega) ?_;conv=>whnf)|(refine AQ (by assumption) ?_;conv=>whnf)|(refine AC (ih') hC CJ ?_ ?_ ?_;kernel_rfl;kernel_rfl;conv=>whnf)|(refine AC (he) hC Dm ?_ ?_ ?_;kernel_rfl;kernel_rfl;conv=>whnf)|(refine AC (hq) hC F8 ?_ ?_ ?_;kernel_rfl;kernel_rfl;conv=>whnf)|(refine AH hE ?_;conv=>whnf))
        all_goals exact ⟨rfl,by rw [←hfin]⟩
      . have hc:=MK (show out.length=(Ay (A0 (.mk a u qs)) w out).length by rw [hol,BF]) hd
        have hc2:=YJ (Ix out (Ay (A0 (.mk a u qs)) w out))
        rw [hnI.len] at hc2
        rw [decide_eq_false hd] at hq
        conv=>whnf
        repeat' (first|(refine Af (by first|assumption|omega) ?_;conv=>whnf)|(refine AQ (by assumption) ?_;conv=>whnf)|(refine AC (ih') hC CJ ?_ ?_ ?_;kernel_rfl;kernel_rfl;conv=>whnf)|(refine AC (he) hC Dm ?_ ?_ ?_;kernel_rfl;kernel_rfl;conv=>whnf)|(refine AC (hq) hC F8 ?_ ?_ ?_;kernel_rfl;kernel_rfl;conv=>whnf))
        all_goals exact AJ [1,3,7] _ hnI (by show _ < _;omega) rfl
    . -- Opt
      obtain ⟨⟨a,u,qs⟩,rfl⟩:=MM (by omega) hfo
      have hp0:([Ex.mk a u qs].map Ai)[0]?=some (.agg [.int .i64 a,.int .i64 u,.lst (qs.map Ai)]):=by rw [List.map_cons,Cs];rfl
      obtain ⟨P,hP⟩:∃P,[Ex.mk a u qs].map Ai=P:=⟨_,rfl⟩
      rw [hP] at hp0 hlm ⊢
      simp only [List.length_singleton] at hlm
      rw [YF,Jc]
      have ih0:=ihp (j:=0) f rfl hf
      unfold AY at ih0
      have he:=FM f (Ay (A0 (.mk a u qs)) w f) (by rw [hf,BF]) (by omega)
      have hn:Ix f (Ay (A0 (.mk a u qs)) w f)=Ay (fun v=>v=[]∨A0 (.mk a u qs) v) w f:=by
        rw [←T7,Ql hf]
      rw [hn] at he
      refine A4 (T:=Tryz.tt) Tryz.func21 rfl AR AB ?_ ?_ fun C hC hE=>?_
      . kernel_rfl
      . exact Nat.le_of_ble_eq_true (by kernel_rfl)
      conv=>whnf
      repeat' (first|(refine AN (by first|assumption|omega) ?_;conv=>whnf)|(refine AM (by first|assumption|omega) ?_;conv=>whnf)|(refine Af (by first|assumption|omega) ?_;conv=>whnf)|(refine AQ (by assumption) ?_;conv=>whnf)|(refine AC (ih0) hC CJ ?_ ?_ ?_;kernel_rfl;kernel_rfl;conv=>whnf)|(refine AC (he) hC Dm ?_ ?_ ?_;kernel_rfl;kernel_rfl;conv=>whnf)|(refine AH hE ?_;conv=>whnf)|(intro hlen;conv=>whnf))
      all_goals exact ⟨rfl,rfl⟩
theorem SR (L:List Int→Prop) (w:List Int):(Ay L w (true::List.replicate w.length false)).getD w.length false=true↔L w:=by
  rw [DV (Nat.le_refl _)]
  constructor
  . rintro ⟨i,hi,h1,h2⟩
    cases i with
    | zero=>simpa using h2
    | succ i=>
      rw [List.getD_eq_getElem?_getD,List.getElem?_cons_succ,List.getElem?_replicate] at h1
      split at h1<;>simp at h1
  . intro h
    exact ⟨0,Nat.zero_le _,rfl,by simpa using h⟩
def YQ (n:Int):Bool:=decide (n < 0) || decide (8≤n)
theorem eJ (n:Int):Fn1 Tryz.prog 20 [.int .i64 n] (fun r=>r= .bool (YQ n)):=by
  refine A4 (T:=Tryz.tt) Tryz.func20 rfl AR AB ?_ ?_ fun C hC hE=>?_
  . kernel_rfl
  . exact Nat.le_of_ble_eq_true (by kernel_rfl)
  conv=>whnf
  repeat' (first|(refine He (fun h=>?_) (fun h=>?_)<;>conv=>whnf)|(refine AH hE ?_;conv=>whnf))
  all_goals exact ⟨rfl,by unfold YQ;simp;omega⟩
set_option maxHeartbeats 4000000 in
theorem SS (x:Ex) (hx:EY x≤1048576) (hc:Xp x=0) (w:List Int) (hw:w.length≤40) (hr:∀n∈w,0≤n∧n < 8):
    Fn1 Tryz.prog 10 [.agg (jG x),AY w] (fun r=>∃b,r= .tup [.bool b,.int .i64 0]∧(b=true↔A0 x w)):=by
  have h1:=Hw x hx
  rw [Ou,hc] at h1
  rw [Ou]
  have hwm:(w.map (V.int .i64)).length=w.length:=by simp
  have hcf:=ED w 20 [] YQ SY rfl (fun q _=>eJ q)
  have hany:w.any YQ=false:=by
    rw [List.any_eq_false]
    intro n hn
    have:=hr n hn
    unfold YQ
    simp;omega
  rw [hany] at hcf
  have hre:=SP w hw (A7 x.parts) x.kind x.type x.parts (true::List.replicate w.length false) (Nat.le_refl _) (by cases x;rw [CV] at hx;show A7 _≤_;simp only [Ex.parts];omega) (by rw [R5];exact dw hc) (by simp)
  rw [R5] at hre
  obtain ⟨b,hb⟩:∃b,(Ay (A0 x) w (true::List.replicate w.length false)).getD w.length false=b:=⟨_,rfl⟩
  have hbi:=SR (A0 x) w
  have hE0:(List.replicate (Int.toNat (((w.map (V.int .i64)).length:Int)+1)) (V.bool false)).set 0 (V.bool true)=(true::List.replicate w.length false).map V.bool:=by
    rw [hwm,show Int.toNat ((w.length:Int)+1)=w.length+1 by omega,List.replicate_succ,List.set_cons_zero,List.map_cons,List.map_replicate]
  rw [hb] at hbi
  have hsl:=BF (A0 x) w (true::List.replicate w.length false)
  generalize Ay (A0 x) w (true::List.replicate w.length false)=o at*
  have hg:(o.map V.bool)[Int.toNat ((w.map (V.int .i64)).length:Int)]?=some (.bool b):=by
    rw [hwm,Int.toNat_natCast]
    rw [List.getElem?_map,List.getElem?_eq_getElem (by omega)]
    rw [List.getD_eq_getElem?_getD,List.getElem?_eq_getElem (by omega)] at hb
    rw [←hb];rfl
  have hom:(o.map V.bool).length=o.length:=by simp
  unfold AY at hre ⊢
  cases b
  all_goals
    refine A4 (T:=Tryz.tt) Tryz.func10 rfl AR AB ?_ ?_ fun C hC hE=>?_
    . kernel_rfl
    . exact Nat.le_of_ble_eq_true (by kernel_rfl)
    conv=>whnf
    repeat' (first|(refine AN (by first|assumption|omega) ?_;conv=>whnf)|(refine AM (by first|assumption|omega) ?_;conv=>whnf)|(refine Af (by first|assumption|omega) ?_;conv=>whnf)|(refine AS (by omega) ?_;conv=>whnf)|(refine AQ (by assumption) ?_;conv=>whnf)|(refine AC (h1) hC F7 ?_ ?_ ?_;kernel_rfl;kernel_rfl;conv=>whnf)|(refine AC (hcf) hC Hz ?_ ?_ ?_;kernel_rfl;kernel_rfl;conv=>whnf)|(refine AC (hre) hC CJ ?_ ?_ ?_;kernel_rfl;kernel_rfl;conv=>whnf)|(refine Ak (BM 1 26 [1,24,25] (congrArg (fun l=>some (some (Ob.row 1 l))) hE0) (Fz _) rfl (by simp) rfl (AP ?_));conv=>whnf)|(refine AH hE ?_;conv=>whnf)|(intro hlen;conv=>whnf))
    all_goals exact ⟨rfl,_,rfl,hbi⟩
end Go.Proofs.YtkaiffheakalmaaGreatDoor
namespace Go.Proofs.YtkaiffheakalmaaGreatDoor
open Go.RowKit
theorem Vf (x:Ex) (hx:EY x≤1048576) (hc:Xp x=0) (w:List Int) (hw:w.length≤40) (hr:∀n∈w,0≤n∧n < 8):∃b:Bool,(b=true↔A0 x w)∧Fn1 Tryz.prog 10 [Ai x,AY w] (fun r=>r= .tup [.bool b,.int .i64 0]):=by
  have hm:=SS x hx hc w hw hr
  by_cases h:A0 x w
  . refine ⟨true,by simp [h],fun wd I vs a b c=>(hm wd I vs a b c).mono ?_⟩
    rintro e w' ⟨v,r,I',h1,⟨b',h2,h3⟩,h4⟩
    have:b'=true:=h3.2 h
    subst this
    exact ⟨v,r,I',h1,h2,h4⟩
  . refine ⟨false,by simp [h],fun wd I vs a b c=>(hm wd I vs a b c).mono ?_⟩
    rintro e w' ⟨v,r,I',h1,⟨b',h2,h3⟩,h4⟩
    have:b'=false:=by
      cases b' with
      | false=>rfl
      | true=>exact absurd (h3.1 rfl) h
    subst this
    exact ⟨v,r,I',h1,h2,h4⟩
theorem cp {Z:List Int} (hZ:∀x∈Z,1≤x∧x≤150):∀w,0≤Mu Z w∧Mu Z w≤150*(w.length:Int)
  | []=>⟨Int.le_refl _,Int.le_refl _⟩
  | x::w=>by
    have h1:=cp hZ w
    have h2:0≤Z.getD x.toNat 0∧Z.getD x.toNat 0≤150:=by
      rw [List.getD_eq_getElem?_getD]
      cases hn:Z[x.toNat]? with
      | none=>exact ⟨Int.le_refl _,by decide⟩
      | some z=>have:=hZ z (List.mem_of_getElem? hn);show 0≤z∧z≤150;omega
    show 0≤Z.getD x.toNat 0+Mu Z w∧Z.getD x.toNat 0+Mu Z w≤150*((w.length+1:Nat):Int)
    omega
set_option maxHeartbeats 8000000 in
theorem O4 (l word:List Int) (t:Int) (hl:∀x∈l,-9223372036854775808≤x∧x≤9223372036854775807) (hwd:∀x∈word,-9223372036854775808≤x∧x≤9223372036854775807) (ht:-9223372036854775808≤t∧t≤9223372036854775807):
    Fn1G Tryz.prog GT 3 [AY l,.int .i64 t,AY word] (fun r=>r= .bool true):=by
  have hk:=ib l
  have hty:=Rz l hl
  rw [eE] at hty
  generalize jK l=h at*
  obtain ⟨Z,hS⟩:=eI hk
  have hr:=Gx t (n:=6) (by omega)
  have hpk:=Ry t 6 (by omega) ht (by omega)
  obtain ⟨k,hke⟩:∃k:Nat,FK t 6=k:=⟨(FK t 6).toNat,by omega⟩
  rw [hke] at hpk hr
  have hkd:=Vd word hwd 6 (by omega) 7 (by omega) (by omega)
  have hw6:=YL word 6 7
  have hwr:=YK word 6 (t:=7) (by omega)
  generalize DY word 6 7=w at*
  obtain ⟨ty,x,m,g1,g2,g3,hmo⟩:=YM hk k (by omega)
  have hp:=ME ty.content
  rw [hmo.parse] at hp
  obtain ⟨b,hb,hmt⟩:=Vf x hmo.sz hmo.chk w (by omega) (fun n hn=>by have:=hwr n hn;omega)
  obtain ⟨nm,ct,at'⟩:=ty
  have gt:((Qo h).map DH)[Int.toNat (k:Int)]?=some (.agg [.str nm,.str ct,.lst (at'.map V.str)]):=by rw [Int.toNat_natCast,List.getElem?_map,g1];rfl
  have htl:((Qo h).map DH).length=7:=rfl
  have hzl:=hS.len
  have hzm:(Z.map (V.int .i64)).length=7:=by rw [List.length_map,hzl]
  have hwm:(w.map (V.int .i64)).length=w.length:=by simp
  dsimp only at hp
  unfold SG at hp
  obtain ⟨xk,xt,xp⟩:=x
  rw [Cs] at hmt
  dsimp only at hp
  rw [Cs] at hp
  have hsz:=hS.sizes
  unfold AY at*
  generalize (Qo h).map DH=T at*
  have e7:(7:Int)=(T.length:Int):=by rw [htl];rfl
  rw [e7] at hkd
  refine Gm (T:=Tryz.tt) Tryz.func3 rfl AR AB ?_ ?_ fun C hC hW hG hE=>?_
  . kernel_rfl
  . exact Nat.le_of_ble_eq_true (by kernel_rfl)
  conv=>whnf
  have hsz':=hsz.c hC hW DQ hG
  repeat' (first|(refine AN (by first|assumption|omega) ?_;conv=>whnf)|(refine Af (by first|assumption|omega) ?_;conv=>whnf)|(refine AQ (by assumption) ?_;conv=>whnf)|(refine AC (hty) hC Vk ?_ ?_ ?_;kernel_rfl;kernel_rfl;conv=>whnf)|(refine AC (hpk) hC Je ?_ ?_ ?_;kernel_rfl;kernel_rfl;conv=>whnf)|(refine AC (hkd) hC Vl ?_ ?_ ?_;kernel_rfl;kernel_rfl;conv=>whnf)|(refine Cx (hsz') hC Vm rfl ?_ ?_ ?_;kernel_rfl;kernel_rfl;conv=>whnf)|(refine AC (hp) hC Nz ?_ ?_ ?_;kernel_rfl;kernel_rfl;conv=>whnf)|(refine ⟨Cm w,?_⟩;conv=>whnf)|(refine Ak (BM 1 43 [7,8,9,10,11,12,13,41,42] rfl (Cr w) rfl rfl rfl (AP ?_)))|(refine AC (hmt) hC SV ?_ ?_ ?_;kernel_rfl;kernel_rfl;conv=>whnf)|(refine DO hE [⟨1,[(0,none),(1,none),(2,some 0)],some 3,[],[[]],[]⟩,⟨0,[(4,none),(5,none),(6,none),(7,none),(8,none)],none,[],[[]],[]⟩] ?_ ?_;decide +kernel;conv=>whnf)|(refine br (fun h=>?_) (fun h=>?_)<;>conv=>whnf)|(intro hlen;conv=>whnf)|(refine Cy ?_;conv=>whnf))
  all_goals
    refine Ae (fun i:Nat=>⟨89,[(8,.int .i64 k),(9,.lst (w.map (V.int .i64))),(10,.lst (Z.map (V.int .i64))),(14,.bool b),(16,.int .i64 (1+Mu Z (w.take i))),(17,.int .i64 i)],[]⟩) (fun i=>i≤w.length) (fun i=>w.length - i) 0 hE ?_ ?_ (Nat.zero_le _) ?_
    . kernel_rfl
    . refine DP [8,9,10,14,16,17] [0] ?_
      conv=>whnf
      first|(have h0:b=true:=‹b=true›;rw [h0];rfl)|(have h0:b=false:=‹b=false›;rw [h0];rfl)
    intro i hi
    have hi:i≤w.length:=hi
    obtain ⟨hb0,hb1⟩:=cp hS.pos (w.take i)
    have htl2:(w.take i).length≤6:=by rw [List.length_take];omega
    by_cases hlt:i < w.length
    . obtain ⟨y,hy⟩:∃y,w[i]?=some y:=⟨_,List.getElem?_eq_getElem hlt⟩
      have hyb:=hwr y (List.mem_of_getElem? hy)
      have gw:(w.map (V.int .i64))[Int.toNat (i:Int)]?=some (.int .i64 y):=by rw [Int.toNat_natCast,List.getElem?_map,hy];rfl
      have hz:Z[y.toNat]?=some (Z.getD y.toNat 0):=by rw [List.getD_eq_getElem?_getD,List.getElem?_eq_getElem (by omega)];rfl
      have gz:(Z.map (V.int .i64))[Int.toNat y]?=some (.int .i64 (Z.getD y.toNat 0)):=by rw [List.getElem?_map,hz];rfl
      have hzb:=hS.pos _ (List.mem_of_getElem? hz)
      have hn:Mu Z (w.take (i+1))=Mu Z (w.take i)+Z.getD y.toNat 0:=by
        rw [List.take_add_one,hy,SO]
        show _=_
        simp [Mu]
      conv=>whnf
      repeat' (first|(refine AN (by first|assumption|omega) ?_;conv=>whnf)|(refine Af (by first|assumption|omega) ?_;conv=>whnf)|(refine AS (by omega) ?_;conv=>whnf)|(refine AQ (by assumption) ?_;conv=>whnf)|(intro hlen;conv=>whnf))
      refine AJ [8,9,10,14,16,17] (i+1) ?_ ?_ ?_
      . exact hlt
      . show w.length - (i+1) < w.length - i
        omega
      conv=>whnf
      rw [hn,←Int.add_assoc]
      rfl
    . obtain rfl:i=w.length:=by omega
      rw [List.take_length] at*
      have hz:Z[k]?=some (Z.getD k 0):=by rw [List.getD_eq_getElem?_getD,List.getElem?_eq_getElem (by omega)];rfl
      have gz:(Z.map (V.int .i64))[Int.toNat (k:Int)]?=some (.int .i64 (Z.getD k 0)):=by rw [Int.toNat_natCast,List.getElem?_map,hz];rfl
      have hbd:=hS.bound k (by omega)
      rw [List.getD_eq_getElem?_getD (l:=jJ _),g2] at hbd
      have hlaw:b=true→Z.getD k 0≤1+Mu Z w:=fun hbt=>by
        have:=(ia (fun n=>by
          rw [List.getD_eq_getElem?_getD]
          cases hn:Z[n]? with
          | none=>exact Int.le_refl _
          | some z=>have:=hS.pos z (List.mem_of_getElem? hn);show 0≤z;omega) _).1 (.mk xk xt xp) w (Nat.le_refl _) (hb.1 hbt)
        simp only [Option.getD_some] at hbd
        omega
      conv=>whnf
      repeat' (first|(refine AM (by first|assumption|omega) ?_;conv=>whnf)|(refine Af (by first|assumption|omega) ?_;conv=>whnf)|(refine dB (by assumption) ?_;conv=>whnf)|(refine jL (by assumption) ?_;conv=>whnf)|(refine AQ (by assumption) ?_;conv=>whnf)|(refine He (fun h=>?_) (fun h=>?_)<;>conv=>whnf)|(refine AH hE ?_;conv=>whnf)|(intro hlen;conv=>whnf))
      all_goals first|exact ⟨rfl,rfl⟩|(exfalso;have h1:=hlaw ‹b=true›;omega)
end Go.Proofs.YtkaiffheakalmaaGreatDoor
