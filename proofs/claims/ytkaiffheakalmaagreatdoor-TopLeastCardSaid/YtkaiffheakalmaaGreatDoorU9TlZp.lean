/- Copied, stripped. No conditions. -/
import Derived.Test.YtkaiffheakalmaaGreatDoorU9TlZb
import Derived.Test.YtkaiffheakalmaaGreatDoorU9TlZm
import Derived.Test.YtkaiffheakalmaaGreatDoorU9TlZo
set_option linter.unusedSimpArgs false
set_option linter.unusedVariables false
set_option maxRecDepth 100000
namespace Go.Proofs.YtkaiffheakalmaaGreatDoor
open Go.RowKit
inductive StarL (L:List Int→Prop):List Int→Prop
  | nil:StarL L []
  | cons {u v:List Int}:L u→StarL L v→StarL L (u++v)
def VV (L M:List Int→Prop) (w:List Int):Prop:=∃u v,w=u++v∧L u∧M v
mutual
def A0:Ex→List Int→Prop
  | .mk k t ps=>if k=1 then fun w=>w=[t] else if k=2 then E0 ps else if k=3 then B4 ps else if k=6 then fun w=>w=[]∨B4 ps w else if k=5 then VV (B4 ps) (StarL (B4 ps)) else StarL (B4 ps)
def E0:List Ex→List Int→Prop
  | []=>fun w=>w=[]
  | p::ps=>VV (A0 p) (E0 ps)
def B4:List Ex→List Int→Prop
  | []=>fun _=>False
  | p::ps=>fun w=>A0 p w∨B4 ps w
end
theorem Qi (t:Int) (ps:List Ex):A0 (.mk 1 t ps)=fun w=>w=[t]:=by rw [A0,if_pos rfl]
theorem Qj (t:Int) (ps:List Ex):A0 (.mk 2 t ps)=E0 ps:=by rw [A0,if_neg (by decide),if_pos rfl]
theorem Qk (t:Int) (ps:List Ex):A0 (.mk 3 t ps)=B4 ps:=by rw [A0,if_neg (by decide),if_neg (by decide),if_pos rfl]
theorem YF (t:Int) (ps:List Ex):A0 (.mk 6 t ps)=fun w=>w=[]∨B4 ps w:=by rw [A0,if_neg (by decide),if_neg (by decide),if_neg (by decide),if_pos rfl]
theorem Ny (t:Int) (ps:List Ex):A0 (.mk 5 t ps)=VV (B4 ps) (StarL (B4 ps)):=by rw [A0,if_neg (by decide),if_neg (by decide),if_neg (by decide),if_neg (by decide),if_pos rfl]
theorem VW (t:Int) (ps:List Ex):A0 (.mk 4 t ps)=StarL (B4 ps):=by rw [A0,if_neg (by decide),if_neg (by decide),if_neg (by decide),if_neg (by decide),if_neg (by decide)]
theorem Jc (p:Ex):B4 [p]=A0 p:=by
  funext w
  simp [B4]
theorem VX (ps:List Ex) (p:Ex) (w:List Int):B4 (ps++[p]) w↔B4 ps w∨A0 p w:=by
  induction ps with
  | nil=>simp [B4]
  | cons q ps ih=>simp only [List.cons_append,B4,ih,or_assoc]
theorem VY (ps:List Ex) (p:Ex) (w:List Int):E0 (ps++[p]) w↔VV (E0 ps) (A0 p) w:=by
  induction ps generalizing w with
  | nil=>
    simp only [List.nil_append,E0,VV]
    constructor
    . rintro ⟨u,v,rfl,h,rfl⟩;exact ⟨[],u,by simp,rfl,h⟩
    . rintro ⟨u,v,rfl,rfl,h⟩;exact ⟨v,[],by simp,h,rfl⟩
  | cons q ps ih=>
    simp only [List.cons_append,E0]
    constructor
    . rintro ⟨u,v,rfl,h,h2⟩
      obtain ⟨a,b,rfl,h3,h4⟩:=(ih v).1 h2
      exact ⟨u++a,b,by simp,⟨u,a,rfl,h,h3⟩,h4⟩
    . rintro ⟨u,v,rfl,⟨a,b,rfl,h1,h2⟩,h3⟩
      exact ⟨a,b++v,by simp,h1,(ih _).2 ⟨b,v,rfl,h2,h3⟩⟩
open Classical in
noncomputable def Ay (L:List Int→Prop) (w:List Int) (f:List Bool):List Bool:=(List.range (w.length+1)).map fun j=>decide (∃i,i≤j∧f.getD i false=true∧L ((w.take j).drop i))
theorem BF (L:List Int→Prop) (w:List Int) (f:List Bool):(Ay L w f).length=w.length+1:=by simp [Ay]
theorem DV {L:List Int→Prop} {w:List Int} {f:List Bool} {j:Nat} (hj:j≤w.length):(Ay L w f).getD j false=true↔∃i,i≤j∧f.getD i false=true∧L ((w.take j).drop i):=by
  unfold Ay
  rw [List.getD_eq_getElem?_getD,List.getElem?_map,List.getElem?_range (by omega)]
  simp
theorem VZ {a b:List Bool} {n:Nat} (ha:a.length=n) (hb:b.length=n) (h:∀j,j < n→(a.getD j false=true↔b.getD j false=true)):a=b:=by
  refine List.ext_getElem (by omega) fun j h1 h2=>?_
  have:=h j (by omega)
  rw [List.getD_eq_getElem?_getD,List.getD_eq_getElem?_getD,List.getElem?_eq_getElem h1,List.getElem?_eq_getElem h2,Option.getD_some,Option.getD_some] at this
  exact Bool.eq_iff_iff.2 this
theorem HL {L:List Int→Prop} {w:List Int} {f out:List Bool} (hl:out.length=w.length+1) (h:∀j,j≤w.length→(out.getD j false=true↔∃i,i≤j∧f.getD i false=true∧L ((w.take j).drop i))):out=Ay L w f:=
  VZ hl (BF L w f) fun j hj=>by rw [DV (by omega)];exact h j (by omega)
theorem MI {L M:List Int→Prop} (h:∀w,L w↔M w) (w:List Int) (f:List Bool):Ay L w f=Ay M w f:=by
  have:L=M:=funext fun w=>propext (h w)
  rw [this]
def Ix (a b:List Bool):List Bool:=List.zipWith (· || ·) a b
theorem MJ {a b:List Bool} {n:Nat} (ha:a.length=n) (hb:b.length=n):(Ix a b).length=n:=by simp [Ix,ha,hb]
theorem O2 {a b:List Bool} {n j:Nat} (ha:a.length=n) (hb:b.length=n):(Ix a b).getD j false=(a.getD j false || b.getD j false):=by
  unfold Ix
  rw [List.getD_eq_getElem?_getD,List.getD_eq_getElem?_getD,List.getD_eq_getElem?_getD,List.getElem?_zipWith]
  by_cases hj:j < n
  . rw [List.getElem?_eq_getElem (by omega),List.getElem?_eq_getElem (by omega)]
    rfl
  . rw [List.getElem?_eq_none (by omega),List.getElem?_eq_none (by omega)]
    rfl
theorem KX {w:List Int} {i j:Nat} (hij:i≤j) (hj:j≤w.length):(w.take j).drop i=[]↔i=j:=by
  rw [←List.length_eq_zero_iff,List.length_drop,List.length_take]
  omega
theorem KY {w:List Int} {i m j:Nat} (h1:i≤m) (h2:m≤j):(w.take j).drop i=(w.take m).drop i++(w.take j).drop m:=by
  have:w.take m=(w.take j).take m:=by rw [List.take_take,Nat.min_eq_left h2]
  rw [this]
  generalize w.take j=x
  have e:x=x.take m++x.drop m:=(List.take_append_drop m x).symm
  by_cases hm:m≤x.length
  . conv=>lhs;rw [e]
    rw [List.drop_append_of_le_length (by rw [List.length_take];omega)]
  . rw [List.take_of_length_le (by omega),List.drop_eq_nil_of_le (by omega:x.length≤m),List.append_nil]
theorem Ql {w:List Int} {f:List Bool} (hf:f.length=w.length+1):Ay (fun v=>v=[]) w f=f:=by
  refine (HL hf fun j hj=>?_).symm
  constructor
  . intro h;exact ⟨j,Nat.le_refl _,h,(KX (Nat.le_refl _) hj).2 rfl⟩
  . rintro ⟨i,hi,h,h2⟩
    rw [KX hi hj] at h2
    subst h2;exact h
theorem aD {w:List Int} {f:List Bool}:Ay (fun _=>False) w f=List.replicate (w.length+1) false:=by
  refine (HL (by simp) fun j hj=>?_).symm
  constructor
  . intro h
    rw [List.getD_eq_getElem?_getD,List.getElem?_replicate] at h
    split at h<;>simp at h
  . rintro ⟨_,_,_,h⟩;exact h.elim
theorem T7 (L M:List Int→Prop) {w:List Int} {f:List Bool}:Ix (Ay L w f) (Ay M w f)=Ay (fun v=>L v∨M v) w f:=by
  refine HL (MJ (BF _ _ _) (BF _ _ _)) fun j hj=>?_
  rw [O2 (BF _ _ _) (BF _ _ _),Bool.or_eq_true,DV hj,DV hj]
  constructor
  . rintro (⟨i,a,b,c⟩|⟨i,a,b,c⟩)
    . exact ⟨i,a,b,.inl c⟩
    . exact ⟨i,a,b,.inr c⟩
  . rintro ⟨i,a,b,c|c⟩
    . exact .inl ⟨i,a,b,c⟩
    . exact .inr ⟨i,a,b,c⟩
theorem Qm (L M:List Int→Prop) {w:List Int} {f:List Bool}:Ay M w (Ay L w f)=Ay (VV L M) w f:=by
  refine HL (BF _ _ _) fun j hj=>?_
  rw [DV hj]
  constructor
  . rintro ⟨m,hm,h,h2⟩
    rw [DV (by omega)] at h
    obtain ⟨i,hi,h3,h4⟩:=h
    exact ⟨i,by omega,h3,_,_,KY hi hm,h4,h2⟩
  . rintro ⟨i,hi,h,u,v,e,h1,h2⟩
    have hlen:j - i=u.length+v.length:=by
      have:=congrArg List.length e
      rw [List.length_drop,List.length_take,List.length_append,Nat.min_eq_left hj] at this
      exact this
    have e2:=KY (w:=w) (i:=i) (m:=i+u.length) (j:=j) (by omega) (by omega)
    have hu:((w.take (i+u.length)).drop i).length=u.length:=by rw [List.length_drop,List.length_take];omega
    obtain ⟨hU,hV⟩:=List.append_inj (e2.symm.trans e) hu
    refine ⟨i+u.length,by omega,?_,?_⟩
    . rw [DV (by omega)]
      exact ⟨i,by omega,h,by rw [hU];exact h1⟩
    . rw [hV];exact h2
def Va (t:Int) (w:List Int) (f:List Bool) (k:Nat):Nat→Bool
  | 0=>false
  | i+1=>if i < k then f.getD i false&&decide (w.getD i 0=t) else false
def Gz (t:Int) (w:List Int) (f:List Bool) (k:Nat):List Bool:=(List.range (w.length+1)).map (Va t w f k)
theorem T8 (t:Int) (w:List Int) (f:List Bool) (k:Nat):(Gz t w f k).length=w.length+1:=by simp [Gz]
theorem YG (t:Int) (w:List Int) (f:List Bool):Gz t w f 0=List.replicate (w.length+1) false:=by
  refine List.ext_getElem (by simp [Gz]) fun j h1 h2=>?_
  simp only [Gz,List.getElem_map,List.getElem_range,List.getElem_replicate]
  cases j<;>simp [Va]
theorem YH {t:Int} {w:List Int} {f:List Bool} {k:Nat} {x:Int} {b:Bool} (hx:w[k]?=some x) (hb:f[k]?=some b):Gz t w f (k+1)=(Gz t w f k).set (k+1) (b&&decide (x=t)):=by
  refine List.ext_getElem (by simp [Gz]) fun j h1 h2=>?_
  rw [List.getElem_set]
  simp only [Gz,List.getElem_map,List.getElem_range]
  cases j with
  | zero=>rw [if_neg (by omega)];rfl
  | succ i=>
    by_cases e:k=i
    . subst e
      simp [Va,List.getD_eq_getElem?_getD,hx,hb]
    . rw [if_neg (by omega)]
      simp only [Va]
      by_cases h:i < k
      . rw [if_pos h,if_pos (by omega)]
      . rw [if_neg h,if_neg (by omega)]
theorem YI (t:Int) (w:List Int) (f:List Bool):Gz t w f w.length=Ay (fun v=>v=[t]) w f:=by
  refine HL (T8 _ _ _ _) fun j hj=>?_
  have e:(Gz t w f w.length).getD j false=Va t w f w.length j:=by
    unfold Gz
    rw [List.getD_eq_getElem?_getD,List.getElem?_map,List.getElem?_range (by omega)]
    rfl
  rw [e]
  cases j with
  | zero=>
    constructor
    . intro h;cases h
    . rintro ⟨i,hi,_,h⟩;simp at h
  | succ i=>
    simp only [Va]
    rw [if_pos (by omega),Bool.and_eq_true,decide_eq_true_iff]
    have hone:(w.take (i+1)).drop i=[w.getD i 0]:=by
      rw [List.take_add_one,List.drop_append_of_le_length (by rw [List.length_take];omega),List.drop_eq_nil_of_le (by rw [List.length_take];omega),List.nil_append]
      rw [List.getD_eq_getElem?_getD,List.getElem?_eq_getElem (by omega)]
      rfl
    constructor
    . rintro ⟨h1,h2⟩
      exact ⟨i,by omega,h1,by rw [hone,h2]⟩
    . rintro ⟨m,hm,h1,h2⟩
      have hl:=congrArg List.length h2
      rw [List.length_drop,List.length_take] at hl
      simp at hl
      obtain rfl:m=i:=by omega
      rw [hone] at h2
      exact ⟨h1,by simpa using h2⟩
def Mt (l:List Bool):Nat:=l.count true
theorem YJ (l:List Bool):Mt l≤l.length:=List.count_le_length
theorem MK:∀{a b:List Bool},a.length=b.length→Ix a b≠a→Mt a < Mt (Ix a b)
  | [],b,_,h=>by simp [Ix] at h
  | x::a,[],hl,_=>by simp at hl
  | x::a,y::b,hl,h=>by
    have hl':a.length=b.length:=by simpa using hl
    have hle:Mt a≤Mt (Ix a b):=by
      by_cases e:Ix a b=a
      . rw [e];exact Nat.le_refl _
      . exact Nat.le_of_lt (MK hl' e)
    have hc:Ix (x::a) (y::b)=(x || y)::Ix a b:=rfl
    rw [hc] at h ⊢
    unfold Mt at hle ⊢
    simp only [List.count_cons]
    cases x with
    | true=>
      have:Ix a b≠a:=fun e=>h (by rw [e];rfl)
      have:=MK hl' this
      unfold Mt at this
      simp
      exact this
    | false=>
      cases y with
      | true=>simp;omega
      | false=>
        have:Ix a b≠a:=fun e=>h (by rw [e];rfl)
        have:=MK hl' this
        unfold Mt at this
        simpa using this
structure StarI (L:List Int→Prop) (w:List Int) (f out:List Bool):Prop where
  len:out.length=w.length+1
  low:∀j,j≤w.length→f.getD j false=true→out.getD j false=true
  high:∀j,j≤w.length→out.getD j false=true→∃i,i≤j∧f.getD i false=true∧StarL L ((w.take j).drop i)
theorem Vb {L:List Int→Prop} {u v:List Int} (h:StarL L u) (hv:L v):StarL L (u++v):=by
  induction h with
  | nil=>simpa using StarL.cons hv .nil
  | cons h1 _ ih=>rw [List.append_assoc];exact .cons h1 ih
theorem StarI.start {L:List Int→Prop} {w:List Int} {f:List Bool} (hf:f.length=w.length+1):StarI L w f f:=
  ⟨hf,fun _ _ h=>h,fun j hj h=>⟨j,Nat.le_refl _,h,by rw [(KX (Nat.le_refl _) hj).2 rfl];exact .nil⟩⟩
theorem StarI.next {L:List Int→Prop} {w:List Int} {f out:List Bool} (h:StarI L w f out):StarI L w f (Ix out (Ay L w out)):=by
  refine ⟨MJ h.len (BF _ _ _),fun j hj hf=>?_,fun j hj ho=>?_⟩
  . rw [O2 h.len (BF _ _ _),h.low j hj hf];rfl
  . rw [O2 h.len (BF _ _ _),Bool.or_eq_true] at ho
    rcases ho with ho|ho
    . exact h.high j hj ho
    . rw [DV hj] at ho
      obtain ⟨m,hm,h1,h2⟩:=ho
      obtain ⟨i,hi,h3,h4⟩:=h.high m (by omega) h1
      exact ⟨i,by omega,h3,by rw [KY hi hm];exact Vb h4 h2⟩
theorem StarI.done {L:List Int→Prop} {w:List Int} {f out:List Bool} (h:StarI L w f out) (he:Ix out (Ay L w out)=out):out=Ay (StarL L) w f:=by
  refine HL h.len fun j hj=>⟨h.high j hj,?_⟩
  rintro ⟨i,hi,h1,h2⟩
  have key:∀(v:List Int),StarL L v→∀m,m≤j→out.getD m false=true→(w.take j).drop m=v→out.getD j false=true:=by
    intro v hv
    induction hv with
    | nil=>
      intro m hm ho e
      rw [KX hm hj] at e
      subst e;exact ho
    | @cons u v hu _ ih=>
      intro m hm ho e
      have hlen:j - m=u.length+v.length:=by
        have:=congrArg List.length e
        rw [List.length_drop,List.length_take,List.length_append,Nat.min_eq_left hj] at this
        exact this
      have e2:=KY (w:=w) (i:=m) (m:=m+u.length) (j:=j) (by omega) (by omega)
      have hul:((w.take (m+u.length)).drop m).length=u.length:=by rw [List.length_drop,List.length_take];omega
      obtain ⟨hU,hV⟩:=List.append_inj (e2.symm.trans e) hul
      refine ih (m+u.length) (by omega) ?_ hV
      rw [←he,O2 h.len (BF _ _ _),Bool.or_eq_true]
      refine .inr ((DV (by omega)).2 ⟨m,by omega,ho,by rw [hU];exact hu⟩)
  exact key _ h2 i hi (h.low i (by omega) h1) rfl
end Go.Proofs.YtkaiffheakalmaaGreatDoor
namespace Go.Proofs.YtkaiffheakalmaaGreatDoor
open Go.RowKit
def DY (l:List Int) (n:Nat) (t:Int):List Int:=(l.take n).map fun a=>FK a t
theorem Vc {l:List Int} {k:Nat} {x:Int} (h:l[k]?=some x) (t:Int):DY l (k+1) t=DY l k t++[FK x t]:=by
  unfold DY
  rw [List.take_add_one,h]
  simp
theorem YK (l:List Int) (n:Nat) {t:Int} (ht:0 < t):∀x∈DY l n t,0≤x∧x < t:=by
  intro x hx
  obtain ⟨a,_,rfl⟩:=List.mem_map.1 hx
  exact Gx a ht
theorem YL (l:List Int) (n:Nat) (t:Int):(DY l n t).length≤n:=by
  unfold DY
  rw [List.length_map,List.length_take]
  omega
theorem Qn:∀l:List Int,J4 (l.map (V.int .i64))=l.map (V.int .i64)
  | []=>rfl
  | x::l=>by simp only [List.map_cons,J4,Qn l];rfl
set_option maxHeartbeats 4000000 in
theorem Vd (l:List Int) (hl:∀x∈l,-9223372036854775808≤x∧x≤9223372036854775807) (n:Nat) (hn:n≤1000) (t:Int) (ht:0 < t) (ht2:t≤1000):
    Fn1 Tryz.prog 7 [AY l,.int .i64 n,.int .i64 t] (fun r=>r=AY (DY l n t)):=by
  have hlm:(l.map (V.int .i64)).length=l.length:=by simp
  unfold AY
  refine OK ?_
  refine A4 (T:=Tryz.tt) Tryz.func7 rfl AR AB ?_ ?_ fun C hC hE=>?_
  . kernel_rfl
  . exact Nat.le_of_ble_eq_true (by kernel_rfl)
  conv=>whnf
  skip
  refine Ae (fun k:Nat=>⟨30,[(0,.lst (l.map (V.int .i64))),(1,.int .i64 n),(2,.int .i64 t),(7,.sl 0 0 k),(8,.int .i64 k)],[some (.row 1 ((DY l k t).map (V.int .i64)))]⟩)
    (fun k=>k≤l.length∧k≤n) (fun k=>l.length - k) 0 hE ?_ ?_ (by omega) ?_
  . kernel_rfl
  . exact JC 7 1 rfl rfl (AU [0,1,2,7,8] rfl)
  rintro k ⟨hk,hkn⟩
  have hkl:((DY l k t).map (V.int .i64)).length=k:=by unfold DY;simp;omega
  have hnr:=AE (DY l k t)
  by_cases hlt:k < l.length∧k < n
  . obtain ⟨x,hx⟩:∃x,l[k]?=some x:=⟨_,List.getElem?_eq_getElem hlt.1⟩
    have hg:(l.map (V.int .i64))[k]?=some (.int .i64 x):=by rw [List.getElem?_map,hx];rfl
    have hp:=Ry x t ht (hl x (List.mem_of_getElem? hx)) (by omega)
    have hnx:=Vc hx t
    have hR:List.take k (List.drop 0 ((DY l k t).map (V.int .i64)))++List.take 1 (List.drop 0 [V.int .i64 (FK x t)])=(DY l (k+1) t).map (V.int .i64):=by
      rw [hnx,List.map_append,List.drop_zero,List.take_of_length_le (by omega)]
      rfl
    conv=>whnf
    repeat' (first|(refine AN (by first|assumption|omega) ?_;conv=>whnf)|(refine Af (by first|assumption|omega) ?_;conv=>whnf)|(refine AS (by omega) ?_;conv=>whnf)|(refine AQ (by assumption) ?_;conv=>whnf)|(refine AC (hp) hC Je ?_ ?_ ?_;kernel_rfl;kernel_rfl;conv=>whnf)|(refine Af (Nat.le_refl 1) ?_;conv=>whnf)|(refine Af ⟨?_,?_,?_⟩ ?_;(show 0+k≤_;omega);(show k+1≤9223372036854775807;omega);(show (k+1)*8≤140737488355328;omega);conv=>whnf)|(intro hlen;conv=>whnf))
    refine AL [0,1,2,7,8] [1] (k+1) (by omega) (by omega) ?_
    conv=>whnf
    rw [hR,AA 0 (AE _),AA 1 (AE _)]
    rfl
  . conv=>whnf
    repeat' (first|(refine AM (by first|assumption|omega) ?_;conv=>whnf)|(refine Ca (BM 0 6 [] rfl (AE (DY l k t)) rfl (by omega) rfl (AP ?_)))|(refine He (fun h=>?_) (fun h=>?_)<;>conv=>whnf)|(refine AH hE ?_;conv=>whnf)|(intro hlen;conv=>whnf))
    all_goals first
      | (exfalso;omega)
      | (refine ⟨rfl,?_⟩
         have hD:DY l n t=DY l k t:=by
           unfold DY
           congr 1
           by_cases h1:k=n
           . rw [h1]
           . rw [List.take_of_length_le (by omega:l.length≤n),List.take_of_length_le (by omega:l.length≤k)]
         rw [hD]
         simp only [V.nl,Qn]
         done)
      | trace_state
end Go.Proofs.YtkaiffheakalmaaGreatDoor
namespace Go.Proofs.YtkaiffheakalmaaGreatDoor
open Go.RowKit
def Mu (Z:List Int) (w:List Int):Int:=(w.map fun n=>Z.getD n.toNat 0).sum
mutual
def YX (Z:List Int):Ex→Int
  | .mk k t ps=>if k=1 then Z.getD t.toNat 0 else if k=2 then eD Z ps else if k=3 then gM Z ps else if k=5 then gM Z ps else 0
def eD (Z:List Int):List Ex→Int
  | []=>0
  | p::ps=>YX Z p+eD Z ps
def gM (Z:List Int):List Ex→Int
  | []=>0
  | p::ps=>if ps.isEmpty then YX Z p else if YX Z p≤gM Z ps then YX Z p else gM Z ps
end
theorem SO (Z u v:List Int):Mu Z (u++v)=Mu Z u+Mu Z v:=by
  unfold Mu
  rw [List.map_append,List.sum_append]
theorem ML {Z:List Int} (hZ:∀n:Nat,0≤Z.getD n 0):∀w,0≤Mu Z w
  | []=>Int.le_refl _
  | x::w=>by
    have:=ML hZ w
    have h2:=hZ x.toNat
    show 0≤Z.getD x.toNat 0+Mu Z w
    omega
theorem ia {Z:List Int} (hZ:∀n:Nat,0≤Z.getD n 0):∀N:Nat,(∀x w,EY x≤N→A0 x w→YX Z x≤Mu Z w)∧(∀ps w,A7 ps≤N→E0 ps w→eD Z ps≤Mu Z w)∧(∀ps w,A7 ps≤N→B4 ps w→gM Z ps≤Mu Z w):=by
  intro N
  induction N with
  | zero=>
    have hE:∀x w,EY x≤0→A0 x w→YX Z x≤Mu Z w:=fun x w hx _=>by have:=Ia x;omega
    refine ⟨hE,fun ps w hps h=>?_,fun ps w hps h=>?_⟩
    . cases ps with
      | nil=>rw [eD];exact ML hZ w
      | cons p ps=>rw [A7] at hps;have:=Ia p;omega
    . cases ps with
      | nil=>simp [B4] at h
      | cons p ps=>rw [A7] at hps;have:=Ia p;omega
  | succ N ih=>
    obtain ⟨ihE,ihS,ihA⟩:=ih
    have hE:∀x w,EY x≤N+1→A0 x w→YX Z x≤Mu Z w:=by
      rintro ⟨k,t,ps⟩ w hx h
      rw [CV] at hx
      rw [YX]
      by_cases h1:k=1
      . subst h1
        rw [Qi] at h
        rw [if_pos rfl,show w=[t] from h]
        show _≤Z.getD t.toNat 0+0
        omega
      rw [if_neg h1]
      by_cases h2:k=2
      . subst h2
        rw [Qj] at h
        rw [if_pos rfl]
        exact ihS ps w (by omega) h
      rw [if_neg h2]
      by_cases h3:k=3
      . subst h3
        rw [Qk] at h
        rw [if_pos rfl]
        exact ihA ps w (by omega) h
      rw [if_neg h3]
      by_cases h5:k=5
      . subst h5
        rw [Ny] at h
        rw [if_pos rfl]
        obtain ⟨u,v,rfl,hu,_⟩:=h
        have:=ihA ps u (by omega) hu
        have h2:=ML hZ v
        rw [SO]
        omega
      rw [if_neg h5]
      exact ML hZ w
    have hS:∀ps w,A7 ps≤N+1→E0 ps w→eD Z ps≤Mu Z w:=by
      intro ps
      induction ps with
      | nil=>intro w _ _;rw [eD];exact ML hZ w
      | cons p ps ih2=>
        intro w hps h
        rw [A7] at hps
        rw [E0] at h
        obtain ⟨u,v,rfl,hu,hv⟩:=h
        have h1:=hE p u (by omega) hu
        have h2:=ih2 v (by omega) hv
        rw [eD,SO]
        omega
    refine ⟨hE,hS,?_⟩
    intro ps
    induction ps with
    | nil=>intro w _ h;simp [B4] at h
    | cons p ps ih2=>
      intro w hps h
      rw [A7] at hps
      rw [B4] at h
      rw [gM]
      rcases h with h|h
      . have h1:=hE p w (by omega) h
        split
        . exact h1
        . split
          . exact h1
          . omega
      . have h2:=ih2 w (by omega) h
        cases ps with
        | nil=>simp [B4] at h
        | cons q qs=>
          rw [if_neg (by simp)]
          split
          . omega
          . exact h2
def aE:Ex:=X9
def x0L:List Ex:=[iE,iG,gD,iJ]
def x1L:List Ex:=[iL,iN,d5]
def x2L:List Ex:=[iQ,d5]
def x3L:List Ex:=[iS,iU,X7]
def x4L:List Ex:=[X8,d5,gD]
def m0L:List Mc:=[gB,gC,d4,gE]
def m1L:List Mc:=[gG,gH,cn]
def m2L:List Mc:=[gI,cn]
def m3L:List Mc:=[gJ,gK,VM]
def m4L:List Mc:=[VN,cn,d4]
structure Ch where
  a:Nat
  b:Nat
  c:Nat
  d:Nat
  e:Nat
  f:Nat
def Qo (h:Ch):List Ty:=[⟨[100,111,99],wds0.getD h.a [],[]⟩,⟨[112],wds1.getD h.b [],[[99,108,97,115,115]]⟩,⟨[104,49],wds2.getD h.c [],[]⟩,⟨[117,108],wds3.getD h.d [],[]⟩,⟨[108,105],wds4.getD h.e [],[]⟩,⟨[101,109],wds5.getD h.f [],[]⟩,⟨[],[],[]⟩]
def jJ (h:Ch):List Ex:=[x0L.getD h.a aE,x1L.getD h.b aE,x2L.getD h.c aE,x3L.getD h.d aE,x4L.getD h.e aE,x2L.getD h.f aE,aE]
def Qp (h:Ch):List Mc:=[m0L.getD h.a Ja,m1L.getD h.b Ja,m2L.getD h.c Ja,m3L.getD h.d Ja,m4L.getD h.e Ja,m2L.getD h.f Ja,Ja]
structure Ch.ok (h:Ch):Prop where
  a:h.a < 4
  b:h.b < 3
  c:h.c < 2
  d:h.d < 3
  e:h.e < 3
  f:h.f < 2
def Mv (l:List Int) (i n:Nat):Nat:=match l[i]? with|none=>0|some a=>(FK a n).toNat
def jK (l:List Int):Ch:=⟨Mv l 0 4,Mv l 1 3,Mv l 2 2,Mv l 3 3,Mv l 4 3,Mv l 5 2⟩
theorem Jd (l:List Int) (i:Nat) {n:Nat} (hn:0 < n):Mv l i n < n:=by
  unfold Mv
  split
  . exact hn
  . rename_i a _
    have:=Gx a (n:=(n:Int)) (by omega)
    omega
theorem HM (l:List Int) (i:Nat) (s:List (List UInt8)):HS l i s=s.getD (Mv l i s.length) []:=by
  unfold HS Mv
  split<;>simp_all
theorem ib (l:List Int):(jK l).ok:=⟨Jd l 0 (by decide),Jd l 1 (by decide),Jd l 2 (by decide),Jd l 3 (by decide),Jd l 4 (by decide),Jd l 5 (by decide)⟩
theorem eE (l:List Int):du l=Qo (jK l):=by
  unfold du Qo jK
  rw [HM l 0,HM l 1,HM l 2,HM l 3,HM l 4,HM l 5]
  rfl
theorem YM {h:Ch} (hk:h.ok):∀(i:Nat),i < 7→∃t x m,(Qo h)[i]?=some t∧(jJ h)[i]?=some x∧(Qp h)[i]?=some m∧MachOk t.content x m:=by
  obtain ⟨a,b,c,d,e,f⟩:=h
  obtain ⟨ha,hb,hc,hd,he,hf⟩:=hk
  dsimp only at ha hb hc hd he hf
  intro i hi
  obtain rfl|rfl|rfl|rfl|rfl|rfl|rfl:i=0∨i=1∨i=2∨i=3∨i=4∨i=5∨i=6:=by omega
  . refine ⟨_,_,_,rfl,rfl,rfl,?_⟩
    obtain rfl|rfl|rfl|rfl:a=0∨a=1∨a=2∨a=3:=by omega
    . exact jj
    . exact jl
    . exact jf
    . exact jo
  . refine ⟨_,_,_,rfl,rfl,rfl,?_⟩
    obtain rfl|rfl|rfl:b=0∨b=1∨b=2:=by omega
    . exact jq
    . exact js
    . exact jH
  . refine ⟨_,_,_,rfl,rfl,rfl,?_⟩
    obtain rfl|rfl:c=0∨c=1:=by omega
    . exact jg
    . exact jH
  . refine ⟨_,_,_,rfl,rfl,rfl,?_⟩
    obtain rfl|rfl|rfl:d=0∨d=1∨d=2:=by omega
    . exact jx
    . exact jz
    . exact jU
  . refine ⟨_,_,_,rfl,rfl,rfl,?_⟩
    obtain rfl|rfl|rfl:e=0∨e=1∨e=2:=by omega
    . exact jW
    . exact jH
    . exact jf
  . refine ⟨_,_,_,rfl,rfl,rfl,?_⟩
    obtain rfl|rfl:f=0∨f=1:=by omega
    . exact jg
    . exact jH
  . exact ⟨_,_,_,rfl,rfl,rfl,jY⟩
def nmsC:List Bool:=[true,true,true,true,true,true,false]
def zer7:List Int:=[0,0,0,0,0,0,0]
def eF (h:Ch):Bool:=match YC (nmsC.zip (Qp h)) 20 zer7 with
  | none=>false
  | some Z=>decide (Z.length=7)&&(Z.all fun x=>decide (1≤x)&&decide (x≤150))&&(List.range 6).all fun k=>decide (Z.getD k 0≤1+YX Z ((jJ h).getD k aE))
def FL (a b:Nat):Bool:=(List.range 2).all fun c=>(List.range 3).all fun d=>(List.range 3).all fun e=>(List.range 2).all fun f=>eF ⟨a,b,c,d,e,f⟩
theorem ic:FL 0 0=true:=by decide +kernel
theorem ie:FL 0 1=true:=by decide +kernel
theorem ig:FL 0 2=true:=by decide +kernel
theorem ii:FL 1 0=true:=by decide +kernel
theorem ij:FL 1 1=true:=by decide +kernel
theorem il:FL 1 2=true:=by decide +kernel
theorem im:FL 2 0=true:=by decide +kernel
theorem io:FL 2 1=true:=by decide +kernel
theorem ip:FL 2 2=true:=by decide +kernel
theorem iq:FL 3 0=true:=by decide +kernel
theorem ir:FL 3 1=true:=by decide +kernel
theorem iu:FL 3 2=true:=by decide +kernel
theorem aF {h:Ch} (hk:h.ok):eF h=true:=by
  have key:∀a b,a < 4→b < 3→FL a b=true:=by
    intro a b ha hb
    obtain rfl|rfl|rfl|rfl:a=0∨a=1∨a=2∨a=3:=by omega
    all_goals obtain rfl|rfl|rfl:b=0∨b=1∨b=2:=by omega
    . exact ic
    . exact ie
    . exact ig
    . exact ii
    . exact ij
    . exact il
    . exact im
    . exact io
    . exact ip
    . exact iq
    . exact ir
    . exact iu
  obtain ⟨a,b,c,d,e,f⟩:=h
  have h1:=key a b hk.a hk.b
  unfold FL at h1
  simp only [List.all_eq_true,List.mem_range] at h1
  exact h1 c hk.c d hk.d e hk.e f hk.f
end Go.Proofs.YtkaiffheakalmaaGreatDoor
