/- Copied, stripped. No conditions. -/
import Derived.Test.YtkaiffheakalmaaGreatDoorU9Awr
set_option linter.unusedSimpArgs false
set_option linter.unusedVariables false
set_option maxRecDepth 100000
namespace Go.Proofs.YtkaiffheakalmaaGreatDoor
open Go.RowKit
theorem Fu {b c:Bool} {A:Prop} (h:Br b (Br c A False) False):b=true∧c=true∧A:=by
  have h1:=Ap h
  have h2:=Ap h1.2
  exact ⟨h1.1,h2.1,h2.2⟩
theorem Dz {a b:Nat} (h:Nat.beq a b=true):a=b:=Nat.eq_of_beq_eq_true h
theorem jC {b:Bool} {n:Nat} (h:(b || Nat.beq n 1)=true):b=false→n=1:=by
  intro hb
  subst hb
  exact Dz (by simpa using h)
section
variable {T:TT} {C:Ctx} {σ:ES} {K:V→ES→Prop}
theorem WT {op:UnOp} {x:V} (h:je op x fun r=>K r σ):cL op x (E9 K) σ.st:=by
  unfold cL
  cases op with
  | not=>cases x<;>first|exact Cv h|exact (h:False).elim
  | neg=>cases x<;>first|exact Cv (Fe (K:=fun r=>K r σ) h)|exact (h:False).elim
  | _=>exact (h:False).elim
theorem S9 {z:Nat} {x:V} {k:List V→Prop} (h:dH σ z x k):GU σ.st z x k:=by
  unfold GU
  cases x with
  | lst l=>exact h
  | nils=>exact h
  | sl id off n=>
    obtain ⟨z',els,h1,h2⟩:=Dc h
    have h2:=Ap h2
    simp only [h1]
    exact ⟨Dz h2.1,h2.2.1,h2.2.2⟩
  | str b=>
    have h:=Ap h
    exact ⟨Dz h.1,h.2⟩
  | _=>exact (h:False).elim
theorem NB {s:St} {z:Nat} {x:V} {k k':List V→Prop} (h:GU s z x k) (hk:∀l,k l→k' l):GU s z x k':=by
  unfold GU at*
  split at h
  . exact ⟨h.1,hk _ h.2⟩
  . exact hk _ h
  . split at h
    . exact ⟨h.1,h.2.1,hk _ h.2.2⟩
    . exact h.elim
  . exact ⟨h.1,hk _ h.2⟩
  . exact h.elim
theorem G2 (hT:T.All C.P) {s d:TypeId} {x:V} (h:eConv.eBytes T σ s d x fun r=>K r σ):(∃e,EI C.P s=some (e,1)∧N0 C.P e=some .u8)∧Du C.P d=true∧GU σ.st 1 x fun els=>∃bs:List UInt8,els=bs.map Fd∧bs.length≤maxLen∧E9 K (.str bs) σ.st:=by
  unfold eConv.eBytes at h
  split at h
  . rename_i e z he
    split at h
    . rename_i k hk
      have h1:=Ap h
      obtain ⟨h2,h3,h4⟩:=Fu h1.2
      obtain rfl:=Dz h1.1
      have hk8:k= .u8:=by simpa [Me] using h2
      subst hk8
      refine ⟨⟨e,A5 (TT.ok hT s).ei he,A5 (TT.ok hT e).ik hk⟩,Bm (TT.ok hT d).str h3,NB (S9 h4) ?_⟩
      rintro l ⟨bs,b1,b2,b3⟩
      exact ⟨bs,b1,b2,Cv b3⟩
    . exact h.elim
  . exact h.elim
theorem LG (hT:T.All C.P) {q:Bool} {s d:TypeId} {x:V} (h:eConv T q σ s d x fun r=>K r σ):Ky C s d x (E9 K) σ.st∧(q=true→M7 C s d x (E9 K) σ.st):=by
  cases x with
  | int k0 n=>
    have:GD C.P s d (.int k0 n) (E9 K) σ.st:=by
      unfold GD
      simp only [eConv] at h
      split at h
      . rename_i k hk
        have h:=Ap h
        simp only [A5 (TT.ok hT d).ik hk]
        have hu:=Bm (TT.ok hT s).un h.1
        cases hs:C.P.underlying s with
        | none=>simp [hs] at hu
        | some y=>exact Cv (Fe (K:=fun r=>K r σ) h.2)
      . exact h.elim
    exact ⟨this,fun _=>this⟩
  | str l=>
    have:GD C.P s d (.str l) (E9 K) σ.st:=by
      unfold GD
      obtain ⟨h1,h2,h3⟩:=Fu h
      simp only [Bm (TT.ok hT d).str h1,Bm (TT.ok hT s).str h2]
      exact Cv h3
    exact ⟨.inl this,fun _=>this⟩
  | lst l=>exact ⟨G2 hT h,fun _=>G2 hT h⟩
  | sl a b c=>
    cases q with
    | true=>exact (h:False).elim
    | false=>exact ⟨G2 hT h,fun h=>by cases h⟩
  | nils=>
    cases q with
    | true=>exact (h:False).elim
    | false=>exact ⟨G2 hT h,fun h=>by cases h⟩
  | _=>exact (h:False).elim
theorem Pa {x:V} {i:Nat} (h:cP x i fun r=>K r σ):Jh x i (E9 K) σ.st:=by
  unfold Jh
  cases x<;>first|(obtain ⟨y,h1,h2⟩:=Bx h;exact ⟨y,h1,Cv h2⟩)|exact (h:False).elim
theorem cS (hT:T.All C.P) {s:TypeId} {f:Nat} {y:Nat×Bool×Nat} (h:(T.get s).fi[f]?=some (some y)):FI C.P s f=some y:=by
  have:=cO (TT.ok hT s).fi h
  rwa [Nat.zero_add] at this
theorem TA (hT:T.All C.P) {s:TypeId} {x:V} {f:Nat} (h:dI T s x f fun r=>K r σ):PC C s x f (E9 K) σ.st:=by
  unfold PC
  cases x with
  | agg cs=>
    simp only [dI] at h
    split at h
    . rename_i off b n hf
      obtain ⟨h1,h2,h3⟩:=Fu h
      rw [cS hT hf]
      exact ⟨jC h1,by simpa using h2,Cv h3⟩
    . exact h.elim
  | _=>exact (h:False).elim
theorem TB (hT:T.All C.P) {t:TypeId} {x i:V} (h:dJ T t x i fun r=>K r σ):PD C t x i (E9 K) σ.st:=by
  unfold PD
  cases x with
  | str s=>
    have h:=Ap h
    obtain ⟨k,n,rfl,h0,h2⟩:=CT h.2
    obtain ⟨c,h3,h4⟩:=Bx h2
    exact ⟨h0,Bm (TT.ok hT t).str h.1,c,h3,Cv h4⟩
  | agg cs=>
    simp only [dJ] at h
    split at h
    . rename_i m b z ha
      have h:=Ap h
      obtain ⟨k,n,rfl,h0,h2⟩:=CT h.2
      simp only [A5 (TT.ok hT t).ai ha]
      exact ⟨h0,jC h.1,h2.1,h2.2.1,Cv h2.2.2⟩
    . exact h.elim
  | _=>exact (h:False).elim
theorem I8 {lo hi:Option V} {len:Nat} {k:Option Nat→Option Nat→Prop} (h:WN lo hi len k):∃l h' a b,Mg lo=some l∧N2 len hi=some h'∧l≤h'∧h'≤len∧k a b∧(a=some l∨(a=none∧l=0))∧(b=some h'∨(b=none∧h'=len)):=by
  unfold WN at h
  split at h
  . split at h
    . exact ⟨0,len,none,none,rfl,rfl,Nat.zero_le _,Nat.le_refl _,h,.inr ⟨rfl,rfl⟩,.inr ⟨rfl,rfl⟩⟩
    . obtain ⟨kd,n,rfl,h0,h⟩:=CT h
      exact ⟨0,n.toNat,none,some n.toNat,rfl,by simp [N2,h0],Nat.zero_le _,h.1,h.2,.inr ⟨rfl,rfl⟩,.inl rfl⟩
  . split at h
    . obtain ⟨kd,n,rfl,h0,h⟩:=CT h
      exact ⟨n.toNat,len,some n.toNat,none,by simp [Mg,h0],rfl,h.1,Nat.le_refl _,h.2,.inl rfl,.inr ⟨rfl,rfl⟩⟩
    . obtain ⟨kd,n,rfl,h0,h⟩:=CT h
      obtain ⟨kd',n',rfl,h0',h⟩:=CT h
      exact ⟨n.toNat,n'.toNat,some n.toNat,some n'.toNat,by simp [Mg,h0],by simp [N2,h0'],h.1,h.2.1,h.2.2,.inl rfl,.inl rfl⟩
theorem NC (hT:T.All C.P) {t:TypeId} {x:V} {lo hi:Option V} (h:LD T σ t x lo hi fun r=>K r σ):GO C.P t x lo hi (E9 K) σ.st:=by
  unfold GO
  cases x with
  | str s=>
    have h:=Ap h
    obtain ⟨l,h',a,b,h1,h2,h3,h4,h5,ha,hb⟩:=I8 h.2
    refine ⟨Bm (TT.ok hT t).str h.1,?_⟩
    simp only [h1,h2]
    refine ⟨h3,h4,?_⟩
    rcases ha with rfl|⟨rfl,rfl⟩<;>rcases hb with rfl|⟨rfl,rfl⟩
    . exact Cv h5
    . rw [List.take_length];exact Cv h5
    . rw [List.drop_zero];exact Cv h5
    . rw [List.take_length,List.drop_zero];exact Cv h5
  | lst s=>
    simp only [LD] at h
    split at h
    . rename_i e z he
      obtain ⟨l,h',a,b,h1,h2,h3,h4,h5,ha,hb⟩:=I8 h.2
      simp only [A5 (TT.ok hT t).ei he,h1,h2]
      refine ⟨h.1,h3,h4,?_⟩
      rcases ha with rfl|⟨rfl,rfl⟩<;>rcases hb with rfl|⟨rfl,rfl⟩
      . exact Cv h5
      . rw [List.take_length];exact Cv h5
      . rw [List.drop_zero];exact Cv h5
      . rw [List.take_length,List.drop_zero];exact Cv h5
    . exact h.elim
  | sl id off n=>
    simp only [LD] at h
    split at h
    . rename_i e z he
      obtain ⟨z',els,hr,h⟩:=Dc h
      have h:=Ap h
      obtain ⟨l,h',a,b,h1,h2,h3,h4,h5,ha,hb⟩:=I8 h.2
      simp only [A5 (TT.ok hT t).ei he,hr,h1,h2]
      refine ⟨Dz h.1,h3,h4,?_⟩
      rcases ha with rfl|⟨rfl,rfl⟩<;>rcases hb with rfl|⟨rfl,rfl⟩
      all_goals exact Cv h5
    . exact h.elim
  | gp g=>
    simp only [LD] at h
    split at h
    . rename_i m b z ha
      split at h
      . split at h
        . have h:=Ap h
          simp only [A5 (TT.ok hT t).ai ha]
          exact ⟨trivial,trivial,Nat.le_trans (Nat.le_of_ble_eq_true h.1) (by simp [maxLen]),Cv h.2⟩
        . exact h.elim
      . exact h.elim
    . exact h.elim
  | _=>exact (h:False).elim
theorem Jp (hT:T.All C.P) {t:TypeId} {x i:V} (h:Ff T σ t x i fun r=>K r σ):Dv C t x i (E9 K) σ.st:=by
  unfold Dv
  cases x with
  | lst l=>
    simp only [Ff] at h
    split at h
    . rename_i e z he
      obtain ⟨k,n,rfl,h0,h⟩:=CT h
      obtain ⟨y,h1,h2⟩:=Bx h
      have h2:=Ap h2
      simp only [A5 (TT.ok hT t).ei he]
      exact ⟨h0,y,h1,Dz h2.1,Cv h2.2⟩
    . exact h.elim
  | sl id off len=>
    simp only [Ff] at h
    split at h
    . rename_i e z he
      obtain ⟨z',els,hr,h⟩:=Dc h
      have h:=Ap h
      obtain ⟨k,n,rfl,h0,h2⟩:=CT h.2
      simp only [A5 (TT.ok hT t).ei he,hr]
      exact ⟨h0,Dz h.1,h2.1,Cv h2.2⟩
    . exact h.elim
  | ptr id a b=>
    simp only [Ff] at h
    split at h
    . rename_i m b' z he
      obtain ⟨k,n,rfl,h0,h⟩:=CT h
      simp only [A5 (TT.ok hT t).ai he]
      exact ⟨h0,h.1,Cv h.2⟩
    . exact h.elim
  | rp l=>
    simp only [Ff] at h
    split at h
    . rename_i m b' z he
      obtain ⟨k,n,rfl,h0,h⟩:=CT h
      simp only [A5 (TT.ok hT t).ai he]
      exact ⟨h0,h.1,Cv h.2⟩
    . exact h.elim
  | _=>exact (h:False).elim
theorem Jq (hT:T.All C.P) {s:TypeId} {x:V} {f:Nat} (h:LE T s x f fun r=>K r σ):Dw C s x f (E9 K) σ.st:=by
  unfold Dw
  unfold LE at h
  split at h
  . rename_i off b n hf
    rw [cS hT hf]
    cases x<;>first|exact Cv h|exact (h:False).elim
  . exact h.elim
theorem Pb (hT:T.All C.P) {t:TypeId} {p:V} (h:PY T σ t p fun r=>K r σ):Jf C t p (E9 K) σ.st:=by
  unfold Jf
  unfold PY at h
  split at h
  . rename_i b n ht
    have h:=Ap h
    simp only [A5 (TT.ok hT t).ti ht]
    refine ⟨jC h.1,?_⟩
    cases p with
    | rp l=>
      have h:=Ap h.2
      exact ⟨by simpa using h.1,Cv h.2⟩
    | ptr id i j=>
      obtain ⟨z',els,hr,h⟩:=Dc h.2
      obtain ⟨x,h1,h2⟩:=Bx h
      have h2:=Ap h2
      simp only [hr]
      exact ⟨x,h1,by simpa using h2.1,Cv h2.2⟩
    | _=>exact (h.2:False).elim
  . exact h.elim
theorem UX (hT:T.All C.P) {t:TypeId} {p v:V} (h:RO T t p v K σ):Kf C t p v (E9 K) σ.st:=by
  unfold Kf
  unfold RO at h
  split at h
  . rename_i b n ht
    obtain ⟨h1,h2,h3⟩:=Fu h
    rcases Dp h3 with ⟨_,h3⟩|⟨h4,h3⟩
    . exact h3.elim
    simp only [A5 (TT.ok hT t).ti ht]
    refine ⟨h1,Dz h2,fun e=>(by subst e;cases h4),?_⟩
    cases p with
    | ptr id i j=>
      obtain ⟨z',els,hr,h⟩:=Dc h3
      obtain ⟨x,g1,g2⟩:=Bx h
      have g2:=Ap g2
      simp only [hr]
      simp only [HW,BB,Cu] at g2
      exact ⟨x,g1,by simpa using g2.1,⟨_,rfl,g2.2⟩⟩
    | _=>exact (h3:False).elim
  . exact h.elim
theorem Cj {o:Ob} {k:Nat→ES→Prop} (h:LF σ o k):k (AG σ.heap) ⟨σ.n,σ.u,Aj σ.heap o⟩:=by
  simpa only [LF,K7,BB,Cu] using h
theorem Yy (hT:T.All C.P) {t:TypeId} {v:V} (h:dK T t v K σ):Vy C t v (E9 K) σ.st:=by
  unfold Vy
  unfold dK at h
  split at h
  . rename_i b n ht
    obtain ⟨h1,h2,h3⟩:=Fu h
    simp only [A5 (TT.ok hT t).ti ht]
    exact ⟨h1,Dz h2,⟨_,rfl,Cj h3⟩⟩
  . exact h.elim
theorem UY (hT:T.All C.P) {t:TypeId} (h:RQ T t K σ):Hd C t (E9 K) σ.st:=by
  unfold Hd
  unfold RQ at h
  split at h
  . rename_i x hx
    simp only [I6 (TT.ok hT t).zv hx]
    exact ⟨_,rfl,Cj h⟩
  . exact h.elim
theorem ND (hT:T.All C.P) {t:TypeId} {ps:List (Nat×V)} (h:RR T t ps fun r=>K r σ):Fp C t ps (E9 K) σ.st:=by
  unfold Fp
  unfold RR at h
  split at h
  . rename_i pl hp
    split at h
    . rename_i c0 hz
      obtain ⟨cs,h1,h2⟩:=Bx h
      simp only [A5 (TT.ok hT t).si hp,I6 (TT.ok hT t).zv hz,h1]
      exact Cv h2
    . exact h.elim
  . exact h.elim
theorem WU {fn:Fn} {first cap:List V} (h:jO fn first cap fun r=>K r σ):cM fn first cap (E9 K) σ.st:=by
  unfold cM
  unfold jO at h
  split at h
  . split at h
    . exact Cv h
    . exact h.elim
  . exact h.elim
theorem NE {x:V} (h:WO x fun r=>K r σ):GN x (E9 K) σ.st:=by
  unfold GN
  cases x<;>first|exact Cv h|exact (h:False).elim
theorem UZ (hT:T.All C.P) {t:TypeId} {x:V} (h:WP T t x K σ):Kz C t x (E9 K) σ.st:=by
  unfold Kz
  cases x with
  | str s=>
    have h:=Ap h
    exact ⟨Bm (TT.ok hT t).str h.1,⟨_,rfl,Cj h.2⟩⟩
  | _=>exact (h:False).elim
theorem WV {x:V} {b:Bool} (h:cQ x b K σ):PQ x b (E9 K) σ.st:=by
  unfold PQ
  cases x with
  | it id=>
    have h:=Ap h
    refine ⟨h.1,?_⟩
    obtain ⟨o,h1,h2⟩:=Bx h.2
    rw [Yv,h1]
    cases o with
    | none=>exact h2.elim
    | some o=>
      cases o with
      | row z els=>exact h2.elim
      | hid vs l=>exact h2.elim
      | bld T y=>exact h2.elim
      | buf U s=>exact h2.elim
      | mp es=>exact h2.elim
      | iter s pos=>
        simp only at h2 ⊢
        simp only [BB,Cu] at h2
        exact ⟨fun hp=>⟨_,rfl,h2.t hp⟩,fun hn=>Cv (h2.f hn)⟩
  | _=>exact (h:False).elim
theorem RS (hT:T.All C.P) {t:TypeId} {n:Nat} {ps:List (Nat×V)} (h:OD T t n ps K σ):E8 C t n ps (E9 K) σ.st:=by
  unfold E8
  unfold OD at h
  split at h
  . rename_i e z he
    split at h
    . rename_i z' hz
      obtain ⟨h1,h2,h3⟩:=Fu h
      obtain ⟨h4,h5,h6⟩:=Fu h3
      obtain rfl:=Dz h1
      simp only [A5 (TT.ok hT t).ei he]
      have hzok:=(TT.ok hT e).zok
      rw [hz] at hzok
      simp only [K6] at h6
      refine ⟨hzok,by simpa using h2,by simpa using h4,fun v hv=>?_,⟨_,rfl,Cj h6⟩⟩
      have:=List.all_eq_true.1 h5 v hv
      simp only [Bool.and_eq_true] at this
      exact ⟨this.1,Dz this.2⟩
    . exact h.elim
  . exact h.elim
theorem WW (hT:T.All C.P) {s d:TypeId} {b:List UInt8} (h:WS T s d b K σ):WE C s d b (E9 K) σ.st:=by
  unfold WS at h
  split at h
  . rename_i e z he
    split at h
    . rename_i k hk
      obtain ⟨h1,h2,h3⟩:=Fu h
      obtain ⟨h4,h5⟩:=Ap h3
      obtain rfl:=Dz h1
      have hk8:k= .u8:=by simpa [Me] using h2
      subst hk8
      exact ⟨e,A5 (TT.ok hT d).ei he,A5 (TT.ok hT e).ik hk,Bm (TT.ok hT s).str h4,_,rfl,Cj h5⟩
    . exact h.elim
  . exact h.elim
theorem Pc {v:V} (h:jB v=true):∃k,v= .int k 0:=by
  cases v with
  | int k n=>exact ⟨k,by simp [jB] at h;rw [h]⟩
  | _=>cases h
theorem WX (hT:T.All C.P) {t:TypeId} {x h m:V} (hh:cR T t x h m K σ):PS C t x h m (E9 K) σ.st:=by
  have hh:=Ap hh
  obtain ⟨h1,h2⟩:=hh
  simp only [Bool.and_eq_true] at h1
  obtain ⟨⟨g1,g2⟩,g3⟩:=h1
  obtain ⟨k1,rfl⟩:=Pc g1
  obtain ⟨k2,rfl⟩:=Pc g2
  split at h2
  . rename_i e z he
    unfold PS
    refine ⟨rfl,rfl,?_⟩
    simp only [A5 (TT.ok hT t).ei he]
    have:=Cj h2
    cases x<;>first|exact ⟨_,rfl,this⟩|cases g3
  . exact h2.elim
theorem WY (hT:T.All C.P) {t:TypeId} {l c:V} (h:WR T t l c K σ):K1 C t l c (E9 K) σ.st:=by
  unfold WR at h
  split at h
  . rename_i e z he
    split at h
    . rename_i x hx
      split at h
      . rename_i z' hz
        split at h
        . rename_i b hb
          have h:=Ap h
          obtain ⟨h1,h2⟩:=h
          simp only [Bool.and_eq_true] at h1
          have hzok:=(TT.ok hT e).zok
          rw [hz] at hzok
          have hby:=(TT.ok hT e).by'
          rw [hb] at hby
          obtain rfl:=Dz h1.1
          cases l with
          | int k1 n=>
            cases c with
            | int k2 m=>
              have h2:=h2
              unfold K1
              simp only [A5 (TT.ok hT t).ei he,I6 (TT.ok hT e).zv hx]
              refine ⟨hzok,Dz h1.2,h2.1.1,h2.1.2.1,?_,h2.1.2.2.2,⟨_,rfl,Cj h2.2⟩⟩
              have e1:Mh C.P e=b:=hby
              rw [e1]
              exact h2.1.2.2.1
            | _=>exact h2.elim
          | _=>exact h2.elim
        . exact h.elim
      . exact h.elim
    . exact h.elim
  . exact h.elim
theorem Ua {e:TypeId} {n z:Nat} (hn:Mh C.P e=n) {s:V} {news:List V} (h:WQ n z s K σ news):Kj C e z s (E9 K) σ.st news:=by
  unfold Kj
  rw [hn]
  cases s with
  | nils=>
    exact ⟨h.1.1,h.1.2,⟨_,rfl,Cj h.2⟩⟩
  | sl id off k=>
    obtain ⟨z',els,hr,h⟩:=Dc h
    have h:=Ap h
    simp only [hr]
    refine ⟨Dz h.1,h.2.1.1,h.2.1.2.1,h.2.1.2.2,?_⟩
    have h2:=h.2.2
    simp only [EU,BB,Cu] at h2
    refine ⟨_,?_,h2⟩
    unfold ES.st
    congr 1
    exact K8 σ.n id σ.u σ.heap _
  | _=>exact (h:False).elim
theorem Yz (hT:T.All C.P) {t t':TypeId} {s x:V} (h:dL T t t' s x K σ):PE C t t' s x (E9 K) σ.st:=by
  unfold PE
  unfold dL at h
  split at h
  . rename_i e z he
    split at h
    . rename_i z' hz
      split at h
      . rename_i n hn
        obtain ⟨h1,h2,h3⟩:=Fu h
        obtain rfl:=Dz h1
        simp only [A5 (TT.ok hT t).ei he]
        have hzok:=(TT.ok hT e).zok
        rw [hz] at hzok
        have hby:=(TT.ok hT e).by'
        rw [hn] at hby
        exact ⟨hzok,Bm (TT.ok hT t').ni h2,NB (S9 h3) fun l hl=>Ua hby hl⟩
      . exact h.elim
    . exact h.elim
  . exact h.elim
theorem Y0 (hT:T.All C.P) {q:Bool} {t:TypeId} {x:V} (h:dM T q t x fun r=>K r σ):UB C.P t x (E9 K) σ.st∧(q=true→UL C.P t x (E9 K) σ.st):=by
  cases x with
  | str s=>
    have h:=Ap h
    have h1:=Bm (TT.ok hT t).str h.1
    cases q with
    | true=>exact ⟨⟨h1,fun _=>Cv h.2⟩,fun _=>⟨h1,Cv h.2⟩⟩
    | false=>exact ⟨⟨h1,fun e=>Cv (h.2 e)⟩,fun h=>by cases h⟩
  | lst l=>
    have h:=Ap h
    have h1:=Bm (TT.ok hT t).sli h.1
    cases q with
    | true=>exact ⟨⟨h1,fun _=>Cv h.2⟩,fun _=>⟨h1,Cv h.2⟩⟩
    | false=>exact ⟨⟨h1,fun e=>Cv (h.2 e)⟩,fun h=>by cases h⟩
  | nils=>
    have h:=Ap h
    have h1:=Bm (TT.ok hT t).sli h.1
    exact ⟨⟨h1,Cv h.2⟩,fun _=>⟨h1,Cv h.2⟩⟩
  | sl a b n=>
    have h:=Ap h
    have h1:=Bm (TT.ok hT t).sli h.1
    cases q with
    | true=>exact ⟨⟨h1,fun _=>Cv h.2⟩,fun _=>⟨h1,Cv h.2⟩⟩
    | false=>exact ⟨⟨h1,fun e=>Cv (h.2 e)⟩,fun h=>by cases h⟩
  | _=>exact (h:False).elim
theorem TC (l:List Operand):l.map σ.st.val=l.map σ.val:=List.map_congr_left fun o _=>Av σ o
theorem Pd {q:Bool} {fop:Operand} {args:List Operand} (h:S8 C q fop args K σ):(q=false→PI C fop args (E9 K) σ.st)∧(q=true→GF C fop args (E9 K) σ.st):=by
  unfold S8 at h
  split at h
  . simp only [K6] at h
    cases q with
    | true=>exact ⟨fun h=>(by cases h),fun _=>h.out⟩
    | false=>exact ⟨fun _=>h.out,fun h=>by cases h⟩
  . exact h.elim
def Ef:Op→Bool
  | .makeSlice _ _ _=>true
  | .slice _ _ _ _ m=>m.isSome
  | .buildSlice _ _ _|.alloc _|.box _ _|.store _ _ _=>true
  | .call c=>match c.callee with|.builtin .append=>true|_=>false
  | _=>false
theorem Y1 {fop:Operand} {args:List Operand} {K':V→St→Prop} {s:St} (h:GF C fop args K' s):PI C fop args K' s:=by
  refine Bg ?_
  unfold GF at h
  unfold EA
  split at h
  . rename_i g caps hf
    rw [hf]
    rcases h with ⟨h1,⟨h2,r,h3,h4⟩|⟨id,z,els,r,g1,g2,g3,g4,g5,g6⟩|⟨id,z,els,id2,z2,els2,r,gn,g1,g1',g2,g2',g3,g4,g5,g6⟩⟩
    . exact ⟨h1,Fa h3 h2 (fun r' e=>e▸h4)⟩
    . exact ⟨h1,Hb id g1 g2 g5 g3 g4 g6⟩
    . exact ⟨h1,Ji id id2 gn g1 g1' g2 g2' g5 g3 g4 g6⟩
  . exact h.elim
theorem Fg (hT:T.All C.P) {q:Bool} {o:Oper} (h:BH T C q o.op K σ):C4 C o σ.st (E9 K)∧(q=true→Ef o.op=false→BV C o σ.st (E9 K)):=by
  unfold C4 BV
  cases ho:o.op with
  | move x=>simp only [ho,BH,Av] at h ⊢;exact ⟨Cv h,fun _ _=>Cv h⟩
  | assign x=>simp only [ho,BH,Av] at h ⊢;exact ⟨Cv h,fun _ _=>Cv h⟩
  | pick c a b=>
    simp only [ho,BH,Av] at h ⊢
    have:Jg (σ.val c) (σ.val a) (σ.val b) (E9 K) σ.st:=by
      obtain ⟨t,e,h⟩:=PV h
      rw [e]
      unfold Jg
      rcases Dp h with ⟨rfl,h⟩|⟨rfl,h⟩
      . exact ⟨fun _=>Cv h,fun e=>by cases e⟩
      . exact ⟨fun e=>(by cases e),fun _=>Cv h⟩
    exact ⟨this,fun _ _=>this⟩
  | binOp op t x y t'=>
    simp only [ho,BH,Av] at h ⊢
    split at h
    all_goals first
      | (cases q with
         | true=>exact h.elim
         | false=>exact ⟨.inr (h.out o ho),fun h=>by cases h⟩)
      | skip
    have h':eBin T q t op (σ.val x) (σ.val y) fun r=>E9 K r σ.st:=by
      refine UW h (fun r hr=>Cv hr)
    have:=Yx (σ:=σ.st) (K:=E9 K) hT h'
    exact ⟨.inl this.1,fun hq _=>this.2 hq⟩
  | unOp op t x=>simp only [ho,BH,Av] at h ⊢;exact ⟨WT h,fun _ _=>WT h⟩
  | convert s d x=>
    simp only [ho,BH,Av] at h ⊢
    split at h
    . rename_i b hx
      rw [hx]
      split at h
      . have:=LG hT h
        exact ⟨.inl this.1,fun hq _=>this.2 hq⟩
      . cases q with
        | true=>exact h.elim
        | false=>exact ⟨.inl (.inr (WW hT h)),fun h=>by cases h⟩
    . rename_i k n hx
      split at h
      . cases q with
        | true=>exact h.elim
        | false=>exact ⟨.inr (h.out o ho),fun h=>by cases h⟩
      . rw [hx]
        have:=LG hT h
        exact ⟨.inl this.1,fun hq _=>this.2 hq⟩
    . have:=LG hT h
      exact ⟨.inl this.1,fun hq _=>this.2 hq⟩
  | extract x i=>simp only [ho,BH,Av] at h ⊢;exact ⟨Pa h,fun _ _=>Pa h⟩
  | field s x f=>simp only [ho,BH,Av] at h ⊢;exact ⟨TA hT h,fun _ _=>TA hT h⟩
  | index t x i=>simp only [ho,BH,Av] at h ⊢;exact ⟨TB hT h,fun _ _=>TB hT h⟩
  | slice t x lo hi mx=>
    simp only [ho,BH,Av] at h ⊢
    cases mx with
    | some m=>
      simp only at h ⊢
      cases lo with
      | some l=>exact h.elim
      | none=>
        cases hi with
        | none=>exact h.elim
        | some hh=>
          simp only at h ⊢
          refine ⟨WX hT h,fun hq hb=>?_⟩
          simp [Ef] at hb
    | none=>
      simp only at h ⊢
      have e1:lo.map σ.st.val=lo.map σ.val:=by cases lo<;>simp [Av]
      have e2:hi.map σ.st.val=hi.map σ.val:=by cases hi<;>simp [Av]
      rw [e1,e2]
      exact ⟨NC hT h,fun _ _=>NC hT h⟩
  | makeSlice t l c=>simp only [ho,BH,Av] at h ⊢;exact ⟨WY hT h,fun _ hb=>by simp [Ef] at hb⟩
  | indexAddr t x i=>simp only [ho,BH,Av] at h ⊢;exact ⟨Jp hT h,fun _ _=>Jp hT h⟩
  | fieldAddr s x f=>simp only [ho,BH,Av] at h ⊢;exact ⟨Jq hT h,fun _ _=>Jq hT h⟩
  | load t x=>simp only [ho,BH,Av] at h ⊢;exact ⟨Pb hT h,fun _ _=>Pb hT h⟩
  | store t x y=>simp only [ho,BH,Av] at h ⊢;exact ⟨UX hT h,fun _ hb=>by simp [Ef] at hb⟩
  | box t x=>simp only [ho,BH,Av] at h ⊢;exact ⟨Yy hT h,fun _ hb=>by simp [Ef] at hb⟩
  | alloc t=>simp only [ho,BH] at h ⊢;exact ⟨UY hT h,fun _ hb=>by simp [Ef] at hb⟩
  | build t ps=>simp only [ho,BH,Av] at h ⊢;exact ⟨ND hT h,fun _ _=>ND hT h⟩
  | makeFunc fn first cap=>simp only [ho,BH,TC,K5] at h ⊢;exact ⟨WU h,fun _ _=>WU h⟩
  | nilCheck x=>simp only [ho,BH,Av] at h ⊢;exact ⟨NE h,fun _ _=>NE h⟩
  | range t x=>
    simp only [ho,BH,Av] at h ⊢
    cases q with
    | true=>exact h.elim
    | false=>exact ⟨UZ hT h,fun h=>by cases h⟩
  | next x b=>
    simp only [ho,BH,Av] at h ⊢
    cases q with
    | true=>exact h.elim
    | false=>exact ⟨WV h,fun h=>by cases h⟩
  | buildSlice t n ps=>simp only [ho,BH,Av] at h ⊢;exact ⟨RS hT h,fun _ hb=>by simp [Ef] at hb⟩
  | call c=>
    obtain ⟨callee,args,ts⟩:=c
    simp only [ho,BH] at h ⊢
    cases callee with
    | invoke r m=>exact h.elim
    | value f=>
      simp only at h ⊢
      have:=Pd h
      cases q with
      | true=>exact ⟨Y1 (this.2 rfl),fun _ _=>this.2 rfl⟩
      | false=>exact ⟨this.1 rfl,fun h=>by cases h⟩
    | builtin b=>
      have opn:∀{c:Call},IH C q (.call c) K σ→o.op= .call c→BR C o σ.st (E9 K)∧(q=true→False):=by
        intro c h ho
        cases q with
        | true=>exact h.elim
        | false=>exact ⟨h.out o ho,fun h=>by cases h⟩
      simp only [PZ] at h
      cases b with
      | copy=>exact ⟨(opn h ho).1,fun hq _=>((opn h ho).2 hq).elim⟩
      | clear=>exact ⟨(opn h ho).1,fun hq _=>((opn h ho).2 hq).elim⟩
      | cap=>exact ⟨(opn h ho).1,fun hq _=>((opn h ho).2 hq).elim⟩
      | len=>
        simp only at h ⊢
        generalize args.toList=al at h ⊢
        generalize ts.toList=tl at h ⊢
        match al,tl,h with
        | [x],[t],h=>
          simp only [Av]
          simp only at h
          split at h
          . exact ⟨.inr (opn h ho).1,fun hq _=>((opn h ho).2 hq).elim⟩
          . have:=Y0 hT h
            exact ⟨.inl this.1,fun hq _=>this.2 hq⟩
        | [],_,h=>exact h.elim
        | _::_::_,_,h=>exact h.elim
        | [x],[],h=>exact h.elim
        | [x],_::_::_,h=>exact h.elim
      | append=>
        simp only at h ⊢
        generalize args.toList=al at h ⊢
        generalize ts.toList=tl at h ⊢
        match al,tl,h with
        | [s,x],[t,t'],h=>
          simp only [Av]
          exact ⟨Yz hT h,fun _ hb=>by simp [Ef] at hb⟩
        | [],_,h=>exact h.elim
        | [_],_,h=>exact h.elim
        | _::_::_::_,_,h=>exact h.elim
        | [s,x],[],h=>exact h.elim
        | [s,x],[_],h=>exact h.elim
        | [s,x],_::_::_::_,h=>exact h.elim
      | max=>
        simp only at h ⊢
        generalize args.toList=al at h ⊢
        match al,h with
        | [x,y],h=>
          simp only [Av]
          have:IE RG (σ.val x) (σ.val y) (E9 K) σ.st:=by
            unfold IE
            simp only at h
            split at h
            . rename_i k a hx
              split at h
              . rename_i k' b hy
                rw [hx,hy]
                exact Cv h
              . exact h.elim
            . exact h.elim
          exact ⟨this,fun _ _=>this⟩
        | [],h=>exact h.elim
        | [_],h=>exact h.elim
        | _::_::_::_,h=>exact h.elim
      | min=>
        simp only at h ⊢
        generalize args.toList=al at h ⊢
        match al,h with
        | [x,y],h=>
          simp only [Av]
          have:IE RH (σ.val x) (σ.val y) (E9 K) σ.st:=by
            unfold IE
            simp only at h
            split at h
            . rename_i k a hx
              split at h
              . rename_i k' b hy
                rw [hx,hy]
                exact Cv h
              . exact h.elim
            . exact h.elim
          exact ⟨this,fun _ _=>this⟩
        | [],h=>exact h.elim
        | [_],h=>exact h.elim
        | _::_::_::_,h=>exact h.elim
      | _=>exact h.elim
  | makeInterface t x=>
    simp only [ho,BH] at h ⊢
    cases q with
    | true=>exact h.elim
    | false=>exact ⟨h.out o ho,fun h=>by cases h⟩
  | makeMap t r=>
    simp only [ho,BH] at h ⊢
    cases q with
    | true=>exact h.elim
    | false=>exact ⟨h.out o ho,fun h=>by cases h⟩
  | insert t m k x=>
    simp only [ho,BH] at h ⊢
    cases q with
    | true=>exact h.elim
    | false=>exact ⟨h.out o ho,fun h=>by cases h⟩
  | mapUpdate t m k x=>
    simp only [ho,BH] at h ⊢
    cases q with
    | true=>exact h.elim
    | false=>exact ⟨h.out o ho,fun h=>by cases h⟩
  | lookup t m k b=>
    simp only [ho,BH] at h ⊢
    cases q with
    | true=>exact h.elim
    | false=>exact ⟨h.out o ho,fun h=>by cases h⟩
  | _=>simp only [ho,BH] at h
end
end Go.Proofs.YtkaiffheakalmaaGreatDoor
