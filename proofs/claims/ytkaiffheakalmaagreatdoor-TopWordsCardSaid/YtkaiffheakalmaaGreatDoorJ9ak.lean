/- Joined. No conditions. -/
import Derived.Test.YtkaiffheakalmaaGreatDoorJ9aj
set_option linter.unusedSimpArgs false
set_option linter.unusedVariables false
set_option maxRecDepth 100000
namespace Go.Proofs.YtkaiffheakalmaaGreatDoor
section
open Go.RowKit
theorem GY {b c:Bool} {A:Prop} (h:Br b (Br c A False) False):b=true∧c=true∧A:=by
 have h1:=Am h
 have h2:=Am h1.2
 exact ⟨h1.1,h2.1,h2.2⟩
theorem D3 {a b:Nat} (h:Nat.beq a b=true):a=b:=Nat.eq_of_beq_eq_true h
theorem jc {b:Bool} {n:Nat} (h:(b || Nat.beq n 1)=true):b=false→n=1:=by
 intro hb
 subst hb
 exact D3 (by simpa using h)
section
variable {T:TT} {C:Ctx} {σ:ES} {K:V→ES→Prop}
theorem Yg {op:UnOp} {x:V} (h:kK op x fun r=>K r σ):dm op x (Fb K) σ.st:=by
 unfold dm
 cases op with
 | not=>cases x<;>first|exact DH h|exact (h:False).elim
 | neg=>cases x<;>first|exact DH (GB (K:=fun r=>K r σ) h)|exact (h:False).elim
 | _=>exact (h:False).elim
theorem U4 {z:Nat} {x:V} {k:List V→Prop} (h:ee σ z x k):HB σ.st z x k:=by
 unfold HB
 cases x with
 | lst l=>exact h
 | nils=>exact h
 | sl id off n=>
   obtain ⟨z',els,h1,h2⟩:=D2 h
   have h2:=Am h2
   simp only [h1]
   exact ⟨D3 h2.1,h2.2.1,h2.2.2⟩
 | str b=>
   have h:=Am h
   exact ⟨D3 h.1,h.2⟩
 | _=>exact (h:False).elim
theorem OO {s:St} {z:Nat} {x:V} {k k':List V→Prop} (h:HB s z x k) (hk:∀l,k l→k' l):HB s z x k':=by
 unfold HB at*
 split at h
 ·exact ⟨h.1,hk _ h.2⟩
 ·exact hk _ h
 ·split at h
  ·exact ⟨h.1,h.2.1,hk _ h.2.2⟩
  ·exact h.elim
 ·exact ⟨h.1,hk _ h.2⟩
 ·exact h.elim
theorem Hn (hT:T.All C.P) {s d:TypeId} {x:V} (h:eConv.eBytes T σ s d x fun r=>K r σ):(∃e,EI C.P s=some (e,1)∧PQ C.P e=some .u8)∧ET C.P d=true∧HB σ.st 1 x fun els=>∃bs:List UInt8,els=bs.map F9∧bs.length≤maxLen∧Fb K (.str bs) σ.st:=by
 unfold eConv.eBytes at h
 split at h
 ·rename_i e z he
  split at h
  ·rename_i k hk
   have h1:=Am h
   obtain ⟨h2,h3,h4⟩:=GY h1.2
   obtain rfl:=D3 h1.1
   have hk8:k= .u8:=by simpa [Nr] using h2
   subst hk8
   refine ⟨⟨e,A9 (TT.ok hT s).ei he,A9 (TT.ok hT e).ik hk⟩,Bw (TT.ok hT d).str h3,OO (U4 h4) ?_⟩
   rintro l ⟨bs,b1,b2,b3⟩
   exact ⟨bs,b1,b2,DH b3⟩
  ·exact h.elim
 ·exact h.elim
theorem MM (hT:T.All C.P) {q:Bool} {s d:TypeId} {x:V} (h:eConv T q σ s d x fun r=>K r σ):L6 C s d x (Fb K) σ.st∧(q=true→OK C s d x (Fb K) σ.st):=by
 cases x with
 | int k0 n=>
   have:Gu C.P s d (.int k0 n) (Fb K) σ.st:=by
    unfold Gu
    simp only [eConv] at h
    split at h
    ·rename_i k hk
     have h:=Am h
     simp only [A9 (TT.ok hT d).ik hk]
     have hu:=Bw (TT.ok hT s).un h.1
     cases hs:C.P.underlying s with
     | none=>simp [hs] at hu
     | some y=>exact DH (GB (K:=fun r=>K r σ) h.2)
    ·exact h.elim
   exact ⟨this,fun _=>this⟩
 | str l=>
   have:Gu C.P s d (.str l) (Fb K) σ.st:=by
    unfold Gu
    obtain ⟨h1,h2,h3⟩:=GY h
    simp only [Bw (TT.ok hT d).str h1,Bw (TT.ok hT s).str h2]
    exact DH h3
   exact ⟨.inl this,fun _=>this⟩
 | lst l=>exact ⟨Hn hT h,fun _=>Hn hT h⟩
 | sl a b c=>
   cases q with
   | true=>exact (h:False).elim
   | false=>exact ⟨Hn hT h,fun h=>by cases h⟩
 | nils=>
   cases q with
   | true=>exact (h:False).elim
   | false=>exact ⟨Hn hT h,fun h=>by cases h⟩
 | _=>exact (h:False).elim
theorem RE {x:V} {i:Nat} (h:du x i fun r=>K r σ):Kp x i (Fb K) σ.st:=by
 unfold Kp
 cases x<;>first|(obtain ⟨y,h1,h2⟩:=BW h;exact ⟨y,h1,DH h2⟩)|exact (h:False).elim
theorem dx (hT:T.All C.P) {s:TypeId} {f:Nat} {y:Nat×Bool×Nat} (h:(T.get s).fi[f]?=some (some y)):FI C.P s f=some y:=by
 have:=dq (TT.ok hT s).fi h
 rwa [Nat.zero_add] at this
theorem U5 (hT:T.All C.P) {s:TypeId} {x:V} {f:Nat} (h:eg T s x f fun r=>K r σ):Qr C s x f (Fb K) σ.st:=by
 unfold Qr
 cases x with
 | agg cs=>
   simp only [eg] at h
   split at h
   ·rename_i off b n hf
    obtain ⟨h1,h2,h3⟩:=GY h
    rw [dx hT hf]
    exact ⟨jc h1,by simpa using h2,DH h3⟩
   ·exact h.elim
 | _=>exact (h:False).elim
theorem U6 (hT:T.All C.P) {t:TypeId} {x i:V} (h:eh T t x i fun r=>K r σ):Qs C t x i (Fb K) σ.st:=by
 unfold Qs
 cases x with
 | str s=>
   have h:=Am h
   obtain ⟨k,n,rfl,h0,h2⟩:=Cq h.2
   obtain ⟨c,h3,h4⟩:=BW h2
   exact ⟨h0,Bw (TT.ok hT t).str h.1,c,h3,DH h4⟩
 | agg cs=>
   simp only [eh] at h
   split at h
   ·rename_i m b z ha
    have h:=Am h
    obtain ⟨k,n,rfl,h0,h2⟩:=Cq h.2
    simp only [A9 (TT.ok hT t).ai ha]
    exact ⟨h0,jc h.1,h2.1,h2.2.1,DH h2.2.2⟩
   ·exact h.elim
 | _=>exact (h:False).elim
theorem J4 {lo hi:Option V} {len:Nat} {k:Option Nat→Option Nat→Prop} (h:Ya lo hi len k):∃l h' a b,Nt lo=some l∧PT len hi=some h'∧l≤h'∧h'≤len∧k a b∧(a=some l∨(a=none∧l=0))∧(b=some h'∨(b=none∧h'=len)):=by
 unfold Ya at h
 split at h
 ·split at h
  ·exact ⟨0,len,none,none,rfl,rfl,Nat.zero_le _,Nat.le_refl _,h,.inr ⟨rfl,rfl⟩,.inr ⟨rfl,rfl⟩⟩
  ·obtain ⟨kd,n,rfl,h0,h⟩:=Cq h
   exact ⟨0,n.toNat,none,some n.toNat,rfl,by simp [PT,h0],Nat.zero_le _,h.1,h.2,.inr ⟨rfl,rfl⟩,.inl rfl⟩
 ·split at h
  ·obtain ⟨kd,n,rfl,h0,h⟩:=Cq h
   exact ⟨n.toNat,len,some n.toNat,none,by simp [Nt,h0],rfl,h.1,Nat.le_refl _,h.2,.inl rfl,.inr ⟨rfl,rfl⟩⟩
  ·obtain ⟨kd,n,rfl,h0,h⟩:=Cq h
   obtain ⟨kd',n',rfl,h0',h⟩:=Cq h
   exact ⟨n.toNat,n'.toNat,some n.toNat,some n'.toNat,by simp [Nt,h0],by simp [PT,h0'],h.1,h.2.1,h.2.2,.inl rfl,.inl rfl⟩
theorem OP (hT:T.All C.P) {t:TypeId} {x:V} {lo hi:Option V} (h:MJ T σ t x lo hi fun r=>K r σ):G6 C.P t x lo hi (Fb K) σ.st:=by
 unfold G6
 cases x with
 | str s=>
   have h:=Am h
   obtain ⟨l,h',a,b,h1,h2,h3,h4,h5,ha,hb⟩:=J4 h.2
   refine ⟨Bw (TT.ok hT t).str h.1,?_⟩
   simp only [h1,h2]
   refine ⟨h3,h4,?_⟩
   rcases ha with rfl|⟨rfl,rfl⟩<;>rcases hb with rfl|⟨rfl,rfl⟩
   ·exact DH h5
   ·rw [List.take_length];exact DH h5
   ·rw [List.drop_zero];exact DH h5
   ·rw [List.take_length,List.drop_zero];exact DH h5
 | lst s=>
   simp only [MJ] at h
   split at h
   ·rename_i e z he
    obtain ⟨l,h',a,b,h1,h2,h3,h4,h5,ha,hb⟩:=J4 h.2
    simp only [A9 (TT.ok hT t).ei he,h1,h2]
    refine ⟨h.1,h3,h4,?_⟩
    rcases ha with rfl|⟨rfl,rfl⟩<;>rcases hb with rfl|⟨rfl,rfl⟩
    ·exact DH h5
    ·rw [List.take_length];exact DH h5
    ·rw [List.drop_zero];exact DH h5
    ·rw [List.take_length,List.drop_zero];exact DH h5
   ·exact h.elim
 | sl id off n=>
   simp only [MJ] at h
   split at h
   ·rename_i e z he
    obtain ⟨z',els,hr,h⟩:=D2 h
    have h:=Am h
    obtain ⟨l,h',a,b,h1,h2,h3,h4,h5,ha,hb⟩:=J4 h.2
    simp only [A9 (TT.ok hT t).ei he,hr,h1,h2]
    refine ⟨D3 h.1,h3,h4,?_⟩
    rcases ha with rfl|⟨rfl,rfl⟩<;>rcases hb with rfl|⟨rfl,rfl⟩
    all_goals exact DH h5
   ·exact h.elim
 | gp g=>
   simp only [MJ] at h
   split at h
   ·rename_i m b z ha
    split at h
    ·split at h
     ·have h:=Am h
      simp only [A9 (TT.ok hT t).ai ha]
      exact ⟨trivial,trivial,Nat.le_trans (Nat.le_of_ble_eq_true h.1) (by simp [maxLen]),DH h.2⟩
     ·exact h.elim
    ·exact h.elim
   ·exact h.elim
 | _=>exact (h:False).elim
theorem Ky (hT:T.All C.P) {t:TypeId} {x i:V} (h:GD T σ t x i fun r=>K r σ):EU C t x i (Fb K) σ.st:=by
 unfold EU
 cases x with
 | lst l=>
   simp only [GD] at h
   split at h
   ·rename_i e z he
    obtain ⟨k,n,rfl,h0,h⟩:=Cq h
    obtain ⟨y,h1,h2⟩:=BW h
    have h2:=Am h2
    simp only [A9 (TT.ok hT t).ei he]
    exact ⟨h0,y,h1,D3 h2.1,DH h2.2⟩
   ·exact h.elim
 | sl id off len=>
   simp only [GD] at h
   split at h
   ·rename_i e z he
    obtain ⟨z',els,hr,h⟩:=D2 h
    have h:=Am h
    obtain ⟨k,n,rfl,h0,h2⟩:=Cq h.2
    simp only [A9 (TT.ok hT t).ei he,hr]
    exact ⟨h0,D3 h.1,h2.1,DH h2.2⟩
   ·exact h.elim
 | ptr id a b=>
   simp only [GD] at h
   split at h
   ·rename_i m b' z he
    obtain ⟨k,n,rfl,h0,h⟩:=Cq h
    simp only [A9 (TT.ok hT t).ai he]
    exact ⟨h0,h.1,DH h.2⟩
   ·exact h.elim
 | rp l=>
   simp only [GD] at h
   split at h
   ·rename_i m b' z he
    obtain ⟨k,n,rfl,h0,h⟩:=Cq h
    simp only [A9 (TT.ok hT t).ai he]
    exact ⟨h0,h.1,DH h.2⟩
   ·exact h.elim
 | _=>exact (h:False).elim
theorem Kz (hT:T.All C.P) {s:TypeId} {x:V} {f:Nat} (h:MK T s x f fun r=>K r σ):EV C s x f (Fb K) σ.st:=by
 unfold EV
 unfold MK at h
 split at h
 ·rename_i off b n hf
  rw [dx hT hf]
  cases x<;>first|exact DH h|exact (h:False).elim
 ·exact h.elim
theorem RF (hT:T.All C.P) {t:TypeId} {p:V} (h:RC T σ t p fun r=>K r σ):Km C t p (Fb K) σ.st:=by
 unfold Km
 unfold RC at h
 split at h
 ·rename_i b n ht
  have h:=Am h
  simp only [A9 (TT.ok hT t).ti ht]
  refine ⟨jc h.1,?_⟩
  cases p with
  | rp l=>
    have h:=Am h.2
    exact ⟨by simpa using h.1,DH h.2⟩
  | ptr id i j=>
    obtain ⟨z',els,hr,h⟩:=D2 h.2
    obtain ⟨x,h1,h2⟩:=BW h
    have h2:=Am h2
    simp only [hr]
    exact ⟨x,h1,by simpa using h2.1,DH h2.2⟩
  | _=>exact (h.2:False).elim
 ·exact h.elim
theorem WZ (hT:T.All C.P) {t:TypeId} {p v:V} (h:TN T t p v K σ):Lo C t p v (Fb K) σ.st:=by
 unfold Lo
 unfold TN at h
 split at h
 ·rename_i b n ht
  obtain ⟨h1,h2,h3⟩:=GY h
  rcases Cu h3 with ⟨_,h3⟩|⟨h4,h3⟩
  ·exact h3.elim
  simp only [A9 (TT.ok hT t).ti ht]
  refine ⟨h1,D3 h2,fun e=>(by subst e;cases h4),?_⟩
  cases p with
  | ptr id i j=>
    obtain ⟨z',els,hr,h⟩:=D2 h3
    obtain ⟨x,g1,g2⟩:=BW h
    have g2:=Am g2
    simp only [hr]
    simp only [GA,A7,Bx] at g2
    exact ⟨x,g1,by simpa using g2.1,⟨_,rfl,g2.2⟩⟩
  | _=>exact (h3:False).elim
 ·exact h.elim
theorem C7 {o:Ob} {k:Nat→ES→Prop} (h:ML σ o k):k (AG σ.heap) ⟨σ.n,σ.u,Ag σ.heap o⟩:=by
 simpa only [ML,MD,A7,Bx] using h
theorem bu (hT:T.All C.P) {t:TypeId} {v:V} (h:ej T t v K σ):YD C t v (Fb K) σ.st:=by
 unfold YD
 unfold ej at h
 split at h
 ·rename_i b n ht
  obtain ⟨h1,h2,h3⟩:=GY h
  simp only [A9 (TT.ok hT t).ti ht]
  exact ⟨h1,D3 h2,⟨_,rfl,C7 h3⟩⟩
 ·exact h.elim
theorem Wa (hT:T.All C.P) {t:TypeId} (h:TO T t K σ):IT C t (Fb K) σ.st:=by
 unfold IT
 unfold TO at h
 split at h
 ·rename_i x hx
  simp only [J1 (TT.ok hT t).zv hx]
  exact ⟨_,rfl,C7 h⟩
 ·exact h.elim
theorem OQ (hT:T.All C.P) {t:TypeId} {ps:List (Nat×V)} (h:TP T t ps fun r=>K r σ):GR C t ps (Fb K) σ.st:=by
 unfold GR
 unfold TP at h
 split at h
 ·rename_i pl hp
  split at h
  ·rename_i c0 hz
   obtain ⟨cs,h1,h2⟩:=BW h
   simp only [A9 (TT.ok hT t).si hp,J1 (TT.ok hT t).zv hz,h1]
   exact DH h2
  ·exact h.elim
 ·exact h.elim
theorem Yh {fn:Fn} {first cap:List V} (h:js fn first cap fun r=>K r σ):dn fn first cap (Fb K) σ.st:=by
 unfold dn
 unfold js at h
 split at h
 ·split at h
  ·exact DH h
  ·exact h.elim
 ·exact h.elim
theorem OR {x:V} (h:Yb x fun r=>K r σ):G5 x (Fb K) σ.st:=by
 unfold G5
 cases x<;>first|exact DH h|exact (h:False).elim
theorem Wb (hT:T.All C.P) {t:TypeId} {x:V} (h:Yc T t x K σ):L7 C t x (Fb K) σ.st:=by
 unfold L7
 cases x with
 | str s=>
   have h:=Am h
   exact ⟨Bw (TT.ok hT t).str h.1,⟨_,rfl,C7 h.2⟩⟩
 | _=>exact (h:False).elim
theorem Yi {x:V} {b:Bool} (h:dv x b K σ):Q5 x b (Fb K) σ.st:=by
 unfold Q5
 cases x with
 | it id=>
   have h:=Am h
   refine ⟨h.1,?_⟩
   obtain ⟨o,h1,h2⟩:=BW h.2
   rw [bn,h1]
   cases o with
   | none=>exact h2.elim
   | some o=>
     cases o with
     | row z els=>exact h2.elim
     | hid vs l=>exact h2.elim
     | bld T y=>exact h2.elim
     | buf U s=>exact h2.elim
     | mp es=>exact h2.elim
     | iter s pos=>
       simp only at h2 ⊢
       simp only [A7,Bx] at h2
       exact ⟨fun hp=>⟨_,rfl,h2.t hp⟩,fun hn=>DH (h2.f hn)⟩
 | _=>exact (h:False).elim
theorem TQ (hT:T.All C.P) {t:TypeId} {n:Nat} {ps:List (Nat×V)} (h:Pe T t n ps K σ):Fg C t n ps (Fb K) σ.st:=by
 unfold Fg
 unfold Pe at h
 split at h
 ·rename_i e z he
  split at h
  ·rename_i z' hz
   obtain ⟨h1,h2,h3⟩:=GY h
   obtain ⟨h4,h5,h6⟩:=GY h3
   obtain rfl:=D3 h1
   simp only [A9 (TT.ok hT t).ei he]
   have hzok:=(TT.ok hT e).zok
   rw [hz] at hzok
   simp only [J2] at h6
   refine ⟨hzok,by simpa using h2,by simpa using h4,fun v hv=>?_,⟨_,rfl,C7 h6⟩⟩
   have:=List.all_eq_true.1 h5 v hv
   simp only [Bool.and_eq_true] at this
   exact ⟨this.1,D3 this.2⟩
  ·exact h.elim
 ·exact h.elim
theorem Yj (hT:T.All C.P) {s d:TypeId} {b:List UInt8} (h:Yf T s d b K σ):YT C s d b (Fb K) σ.st:=by
 unfold Yf at h
 split at h
 ·rename_i e z he
  split at h
  ·rename_i k hk
   obtain ⟨h1,h2,h3⟩:=GY h
   obtain ⟨h4,h5⟩:=Am h3
   obtain rfl:=D3 h1
   have hk8:k= .u8:=by simpa [Nr] using h2
   subst hk8
   exact ⟨e,A9 (TT.ok hT d).ei he,A9 (TT.ok hT e).ik hk,Bw (TT.ok hT s).str h4,_,rfl,C7 h5⟩
  ·exact h.elim
 ·exact h.elim
theorem RG {v:V} (h:jb v=true):∃k,v= .int k 0:=by
 cases v with
 | int k n=>exact ⟨k,by simp [jb] at h;rw [h]⟩
 | _=>cases h
theorem Yk (hT:T.All C.P) {t:TypeId} {x h m:V} (hh:dw T t x h m K σ):Q6 C t x h m (Fb K) σ.st:=by
 have hh:=Am hh
 obtain ⟨h1,h2⟩:=hh
 simp only [Bool.and_eq_true] at h1
 obtain ⟨⟨g1,g2⟩,g3⟩:=h1
 obtain ⟨k1,rfl⟩:=RG g1
 obtain ⟨k2,rfl⟩:=RG g2
 split at h2
 ·rename_i e z he
  unfold Q6
  refine ⟨rfl,rfl,?_⟩
  simp only [A9 (TT.ok hT t).ei he]
  have:=C7 h2
  cases x<;>first|exact ⟨_,rfl,this⟩|cases g3
 ·exact h2.elim
theorem Yl (hT:T.All C.P) {t:TypeId} {l c:V} (h:Ye T t l c K σ):L8 C t l c (Fb K) σ.st:=by
 unfold Ye at h
 split at h
 ·rename_i e z he
  split at h
  ·rename_i x hx
   split at h
   ·rename_i z' hz
    split at h
    ·rename_i b hb
     have h:=Am h
     obtain ⟨h1,h2⟩:=h
     simp only [Bool.and_eq_true] at h1
     have hzok:=(TT.ok hT e).zok
     rw [hz] at hzok
     have hby:=(TT.ok hT e).by'
     rw [hb] at hby
     obtain rfl:=D3 h1.1
     cases l with
     | int k1 n=>
       cases c with
       | int k2 m=>
         have h2:=h2
         unfold L8
         simp only [A9 (TT.ok hT t).ei he,J1 (TT.ok hT e).zv hx]
         refine ⟨hzok,D3 h1.2,h2.1.1,h2.1.2.1,?_,h2.1.2.2.2,⟨_,rfl,C7 h2.2⟩⟩
         have e1:Nu C.P e=b:=hby
         rw [e1]
         exact h2.1.2.2.1
       | _=>exact h2.elim
     | _=>exact h2.elim
    ·exact h.elim
   ·exact h.elim
  ·exact h.elim
 ·exact h.elim
theorem Wc {e:TypeId} {n z:Nat} (hn:Nu C.P e=n) {s:V} {news:List V} (h:Yd n z s K σ news):Ls C e z s (Fb K) σ.st news:=by
 unfold Ls
 rw [hn]
 cases s with
 | nils=>
   exact ⟨h.1.1,h.1.2,⟨_,rfl,C7 h.2⟩⟩
 | sl id off k=>
   obtain ⟨z',els,hr,h⟩:=D2 h
   have h:=Am h
   simp only [hr]
   refine ⟨D3 h.1,h.2.1.1,h.2.1.2.1,h.2.1.2.2,?_⟩
   have h2:=h.2.2
   simp only [E7,A7,Bx] at h2
   refine ⟨_,?_,h2⟩
   unfold ES.st
   congr 1
   exact ME σ.n id σ.u σ.heap _
 | _=>exact (h:False).elim
theorem bv (hT:T.All C.P) {t t':TypeId} {s x:V} (h:ek T t t' s x K σ):Qt C t t' s x (Fb K) σ.st:=by
 unfold Qt
 unfold ek at h
 split at h
 ·rename_i e z he
  split at h
  ·rename_i z' hz
   split at h
   ·rename_i n hn
    obtain ⟨h1,h2,h3⟩:=GY h
    obtain rfl:=D3 h1
    simp only [A9 (TT.ok hT t).ei he]
    have hzok:=(TT.ok hT e).zok
    rw [hz] at hzok
    have hby:=(TT.ok hT e).by'
    rw [hn] at hby
    exact ⟨hzok,Bw (TT.ok hT t').ni h2,OO (U4 h3) fun l hl=>Wc hby hl⟩
   ·exact h.elim
  ·exact h.elim
 ·exact h.elim
theorem bw (hT:T.All C.P) {q:Bool} {t:TypeId} {x:V} (h:el T q t x fun r=>K r σ):WC C.P t x (Fb K) σ.st∧(q=true→WN C.P t x (Fb K) σ.st):=by
 cases x with
 | str s=>
   have h:=Am h
   have h1:=Bw (TT.ok hT t).str h.1
   cases q with
   | true=>exact ⟨⟨h1,fun _=>DH h.2⟩,fun _=>⟨h1,DH h.2⟩⟩
   | false=>exact ⟨⟨h1,fun e=>DH (h.2 e)⟩,fun h=>by cases h⟩
 | lst l=>
   have h:=Am h
   have h1:=Bw (TT.ok hT t).sli h.1
   cases q with
   | true=>exact ⟨⟨h1,fun _=>DH h.2⟩,fun _=>⟨h1,DH h.2⟩⟩
   | false=>exact ⟨⟨h1,fun e=>DH (h.2 e)⟩,fun h=>by cases h⟩
 | nils=>
   have h:=Am h
   have h1:=Bw (TT.ok hT t).sli h.1
   exact ⟨⟨h1,DH h.2⟩,fun _=>⟨h1,DH h.2⟩⟩
 | sl a b n=>
   have h:=Am h
   have h1:=Bw (TT.ok hT t).sli h.1
   cases q with
   | true=>exact ⟨⟨h1,fun _=>DH h.2⟩,fun _=>⟨h1,DH h.2⟩⟩
   | false=>exact ⟨⟨h1,fun e=>DH (h.2 e)⟩,fun h=>by cases h⟩
 | _=>exact (h:False).elim
theorem U7 (l:List Operand):l.map σ.st.val=l.map σ.val:=List.map_congr_left fun o _=>Ao σ o
theorem RH {q:Bool} {fop:Operand} {args:List Operand} (h:U3 C q fop args K σ):(q=false→Qx C fop args (Fb K) σ.st)∧(q=true→Gw C fop args (Fb K) σ.st):=by
 unfold U3 at h
 split at h
 ·simp only [J2] at h
  cases q with
  | true=>exact ⟨fun h=>(by cases h),fun _=>h.out⟩
  | false=>exact ⟨fun _=>h.out,fun h=>by cases h⟩
 ·exact h.elim
def Es:Op→Bool
 | .makeSlice _ _ _=>true
 | .slice _ _ _ _ m=>m.isSome
 | .buildSlice _ _ _|.alloc _|.box _ _|.store _ _ _=>true
 | .call c=>match c.callee with|.builtin .append=>true|_=>false
 | _=>false
theorem bz {fop:Operand} {args:List Operand} {K':V→St→Prop} {s:St} (h:Gw C fop args K' s):Qx C fop args K' s:=by
 refine BM ?_
 unfold Gw at h
 unfold Dz
 split at h
 ·rename_i g caps hf
  rw [hf]
  rcases h with ⟨h1,⟨h2,r,h3,h4⟩|⟨id,z,els,r,g1,g2,g3,g4,g5,g6⟩|⟨id,z,els,id2,z2,els2,r,gn,g1,g1',g2,g2',g3,g4,g5,g6⟩⟩
  ·exact ⟨h1,F6 h3 h2 (fun r' e=>e▸h4)⟩
  ·exact ⟨h1,IR id g1 g2 g5 g3 g4 g6⟩
  ·exact ⟨h1,Kq id id2 gn g1 g1' g2 g2' g5 g3 g4 g6⟩
 ·exact h.elim
theorem Dj (hT:T.All C.P) {q:Bool} {o:Oper} (h:BF T C q o.op K σ):DJ C o σ.st (Fb K)∧(q=true→Es o.op=false→Bg C o σ.st (Fb K)):=by
 unfold DJ Bg
 cases ho:o.op with
 | move x=>simp only [ho,BF,Ao] at h ⊢;exact ⟨DH h,fun _ _=>DH h⟩
 | assign x=>simp only [ho,BF,Ao] at h ⊢;exact ⟨DH h,fun _ _=>DH h⟩
 | pick c a b=>
   simp only [ho,BF,Ao] at h ⊢
   have:Ko (σ.val c) (σ.val a) (σ.val b) (Fb K) σ.st:=by
    obtain ⟨t,e,h⟩:=Q9 h
    rw [e]
    unfold Ko
    rcases Cu h with ⟨rfl,h⟩|⟨rfl,h⟩
    ·exact ⟨fun _=>DH h,fun e=>by cases e⟩
    ·exact ⟨fun e=>(by cases e),fun _=>DH h⟩
   exact ⟨this,fun _ _=>this⟩
 | binOp op t x y t'=>
   simp only [ho,BF,Ao] at h ⊢
   split at h
   all_goals first
    | (cases q with
       | true=>exact h.elim
       | false=>exact ⟨.inr (h.out o ho),fun h=>by cases h⟩)
    | skip
   have h':eBin T q t op (σ.val x) (σ.val y) fun r=>Fb K r σ.st:=by
    refine WY h (fun r hr=>DH hr)
   have:=bq (σ:=σ.st) (K:=Fb K) hT h'
   exact ⟨.inl this.1,fun hq _=>this.2 hq⟩
 | unOp op t x=>simp only [ho,BF,Ao] at h ⊢;exact ⟨Yg h,fun _ _=>Yg h⟩
 | convert s d x=>
   simp only [ho,BF,Ao] at h ⊢
   split at h
   ·rename_i b hx
    rw [hx]
    split at h
    ·have:=MM hT h
     exact ⟨.inl this.1,fun hq _=>this.2 hq⟩
    ·cases q with
     | true=>exact h.elim
     | false=>exact ⟨.inl (.inr (Yj hT h)),fun h=>by cases h⟩
   ·rename_i k n hx
    split at h
    ·cases q with
     | true=>exact h.elim
     | false=>exact ⟨.inr (h.out o ho),fun h=>by cases h⟩
    ·rw [hx]
     have:=MM hT h
     exact ⟨.inl this.1,fun hq _=>this.2 hq⟩
   ·have:=MM hT h
    exact ⟨.inl this.1,fun hq _=>this.2 hq⟩
 | extract x i=>simp only [ho,BF,Ao] at h ⊢;exact ⟨RE h,fun _ _=>RE h⟩
 | field s x f=>simp only [ho,BF,Ao] at h ⊢;exact ⟨U5 hT h,fun _ _=>U5 hT h⟩
 | index t x i=>simp only [ho,BF,Ao] at h ⊢;exact ⟨U6 hT h,fun _ _=>U6 hT h⟩
 | slice t x lo hi mx=>
   simp only [ho,BF,Ao] at h ⊢
   cases mx with
   | some m=>
     simp only at h ⊢
     cases lo with
     | some l=>exact h.elim
     | none=>
       cases hi with
       | none=>exact h.elim
       | some hh=>
         simp only at h ⊢
         refine ⟨Yk hT h,fun hq hb=>?_⟩
         simp [Es] at hb
   | none=>
     simp only at h ⊢
     have e1:lo.map σ.st.val=lo.map σ.val:=by cases lo<;>simp [Ao]
     have e2:hi.map σ.st.val=hi.map σ.val:=by cases hi<;>simp [Ao]
     rw [e1,e2]
     exact ⟨OP hT h,fun _ _=>OP hT h⟩
 | makeSlice t l c=>simp only [ho,BF,Ao] at h ⊢;exact ⟨Yl hT h,fun _ hb=>by simp [Es] at hb⟩
 | indexAddr t x i=>simp only [ho,BF,Ao] at h ⊢;exact ⟨Ky hT h,fun _ _=>Ky hT h⟩
 | fieldAddr s x f=>simp only [ho,BF,Ao] at h ⊢;exact ⟨Kz hT h,fun _ _=>Kz hT h⟩
 | load t x=>simp only [ho,BF,Ao] at h ⊢;exact ⟨RF hT h,fun _ _=>RF hT h⟩
 | store t x y=>simp only [ho,BF,Ao] at h ⊢;exact ⟨WZ hT h,fun _ hb=>by simp [Es] at hb⟩
 | box t x=>simp only [ho,BF,Ao] at h ⊢;exact ⟨bu hT h,fun _ hb=>by simp [Es] at hb⟩
 | alloc t=>simp only [ho,BF] at h ⊢;exact ⟨Wa hT h,fun _ hb=>by simp [Es] at hb⟩
 | build t ps=>simp only [ho,BF,Ao] at h ⊢;exact ⟨OQ hT h,fun _ _=>OQ hT h⟩
 | makeFunc fn first cap=>simp only [ho,BF,U7,MC] at h ⊢;exact ⟨Yh h,fun _ _=>Yh h⟩
 | nilCheck x=>simp only [ho,BF,Ao] at h ⊢;exact ⟨OR h,fun _ _=>OR h⟩
 | range t x=>
   simp only [ho,BF,Ao] at h ⊢
   cases q with
   | true=>exact h.elim
   | false=>exact ⟨Wb hT h,fun h=>by cases h⟩
 | next x b=>
   simp only [ho,BF,Ao] at h ⊢
   cases q with
   | true=>exact h.elim
   | false=>exact ⟨Yi h,fun h=>by cases h⟩
 | buildSlice t n ps=>simp only [ho,BF,Ao] at h ⊢;exact ⟨TQ hT h,fun _ hb=>by simp [Es] at hb⟩
 | call c=>
   obtain ⟨callee,args,ts⟩:=c
   simp only [ho,BF] at h ⊢
   cases callee with
   | invoke r m=>exact h.elim
   | value f=>
     simp only at h ⊢
     have:=RH h
     cases q with
     | true=>exact ⟨bz (this.2 rfl),fun _ _=>this.2 rfl⟩
     | false=>exact ⟨this.1 rfl,fun h=>by cases h⟩
   | builtin b=>
     have opn:∀{c:Call},JD C q (.call c) K σ→o.op= .call c→Bc C o σ.st (Fb K)∧(q=true→False):=by
      intro c h ho
      cases q with
      | true=>exact h.elim
      | false=>exact ⟨h.out o ho,fun h=>by cases h⟩
     simp only [RD] at h
     cases b with
     | copy=>exact ⟨(opn h ho).1,fun hq _=>((opn h ho).2 hq).elim⟩
     | clear=>exact ⟨(opn h ho).1,fun hq _=>((opn h ho).2 hq).elim⟩
     | cap=>exact ⟨(opn h ho).1,fun hq _=>((opn h ho).2 hq).elim⟩
     | len=>
       simp only at h ⊢
       generalize args.toList=al at h ⊢
       generalize ts.toList=tl at h ⊢
       match al,tl,h with
       | [x],[t],h=>
         simp only [Ao]
         simp only at h
         split at h
         ·exact ⟨.inr (opn h ho).1,fun hq _=>((opn h ho).2 hq).elim⟩
         ·have:=bw hT h
          exact ⟨.inl this.1,fun hq _=>this.2 hq⟩
       | [],_,h=>exact h.elim
       | _::_::_,_,h=>exact h.elim
       | [x],[],h=>exact h.elim
       | [x],_::_::_,h=>exact h.elim
     | append=>
       simp only at h ⊢
       generalize args.toList=al at h ⊢
       generalize ts.toList=tl at h ⊢
       match al,tl,h with
       | [s,x],[t,t'],h=>
         simp only [Ao]
         exact ⟨bv hT h,fun _ hb=>by simp [Es] at hb⟩
       | [],_,h=>exact h.elim
       | [_],_,h=>exact h.elim
       | _::_::_::_,_,h=>exact h.elim
       | [s,x],[],h=>exact h.elim
       | [s,x],[_],h=>exact h.elim
       | [s,x],_::_::_::_,h=>exact h.elim
     | max=>
       simp only at h ⊢
       generalize args.toList=al at h ⊢
       match al,h with
       | [x,y],h=>
         simp only [Ao]
         have:JA TD (σ.val x) (σ.val y) (Fb K) σ.st:=by
          unfold JA
          simp only at h
          split at h
          ·rename_i k a hx
           split at h
           ·rename_i k' b hy
            rw [hx,hy]
            exact DH h
           ·exact h.elim
          ·exact h.elim
         exact ⟨this,fun _ _=>this⟩
       | [],h=>exact h.elim
       | [_],h=>exact h.elim
       | _::_::_::_,h=>exact h.elim
     | min=>
       simp only at h ⊢
       generalize args.toList=al at h ⊢
       match al,h with
       | [x,y],h=>
         simp only [Ao]
         have:JA TE (σ.val x) (σ.val y) (Fb K) σ.st:=by
          unfold JA
          simp only at h
          split at h
          ·rename_i k a hx
           split at h
           ·rename_i k' b hy
            rw [hx,hy]
            exact DH h
           ·exact h.elim
          ·exact h.elim
         exact ⟨this,fun _ _=>this⟩
       | [],h=>exact h.elim
       | [_],h=>exact h.elim
       | _::_::_::_,h=>exact h.elim
     | _=>exact h.elim
 | makeInterface t x=>
   simp only [ho,BF] at h ⊢
   cases q with
   | true=>exact h.elim
   | false=>exact ⟨h.out o ho,fun h=>by cases h⟩
 | makeMap t r=>
   simp only [ho,BF] at h ⊢
   cases q with
   | true=>exact h.elim
   | false=>exact ⟨h.out o ho,fun h=>by cases h⟩
 | insert t m k x=>
   simp only [ho,BF] at h ⊢
   cases q with
   | true=>exact h.elim
   | false=>exact ⟨h.out o ho,fun h=>by cases h⟩
 | mapUpdate t m k x=>
   simp only [ho,BF] at h ⊢
   cases q with
   | true=>exact h.elim
   | false=>exact ⟨h.out o ho,fun h=>by cases h⟩
 | lookup t m k b=>
   simp only [ho,BF] at h ⊢
   cases q with
   | true=>exact h.elim
   | false=>exact ⟨h.out o ho,fun h=>by cases h⟩
 | _=>simp only [ho,BF] at h
end
end
section
open Go.RowKit
def HH (x:Option Ob):Option Ob:=match x with
 | none=>some (.hid [] [])
 | some o=>some o
def Bb (p:Nat) (h:List (Option Ob)):List (Option Ob):=(h.take p).map HH++h.drop p
theorem TR (x:Option Ob):∃o,HH x=some o:=by cases x<;>exact ⟨_,rfl⟩
theorem OS:∀(A B:List (Option Ob)),(∀x∈A,∃o,x=some o)→AG (A++none::B)=A.length
 | [],B,_=>rfl
 | x::A,B,h=>by
   obtain ⟨o,rfl⟩:=h x (by simp)
   simp only [List.cons_append,AG,List.length_cons]
   rw [OS A B (fun y hy=>h y (by simp [hy]))]
theorem U8 (o:Ob):∀(A B:List (Option Ob)),(∀x∈A,∃o,x=some o)→Ag (A++none::B) o=A++some o::B
 | [],B,_=>rfl
 | x::A,B,h=>by
   obtain ⟨o',rfl⟩:=h x (by simp)
   simp only [List.cons_append,Ag]
   rw [U8 o A B (fun y hy=>h y (by simp [hy]))]
theorem OT {p:Nat} {h:List (Option Ob)} (hp:h[p]?=some none):Bb p h=(h.take p).map HH++none::h.drop (p+1):=by
 obtain ⟨hlt,he⟩:=List.getElem?_eq_some_iff.1 hp
 unfold Bb
 rw [List.drop_eq_getElem_cons hlt,he]
theorem RI (l:List (Option Ob)):∀x∈l.map HH,∃o,x=some o:=fun x hx=>by
 obtain ⟨y,_,rfl⟩:=List.mem_map.1 hx
 exact TR y
theorem GE {p:Nat} {h:List (Option Ob)} (hp:h[p]?=some none):AG (Bb p h)=p:=by
 rw [OT hp,OS _ _ (RI _),List.length_map,List.length_take]
 have:=(List.getElem?_eq_some_iff.1 hp).1
 omega
theorem b7 {p:Nat} {h:List (Option Ob)} (hp:h[p]?=some none) (o:Ob):Ag (Bb p h) o=(h.take p).map HH++some o::h.drop (p+1):=by
 rw [OT hp,U8 o _ _ (RI _)]
theorem JE (p:Nat) (h:List (Option Ob)) (k:Nat):(Bb p h)[k]?=if k < p then (h[k]?).map HH else h[k]?:=by
 unfold Bb
 by_cases hk:k < p
 ·rw [if_pos hk]
  by_cases hl:k < h.length
  ·rw [List.getElem?_append_left (by simp;omega),List.getElem?_map,List.getElem?_take,if_pos hk]
  ·rw [List.getElem?_append_right (by simp;omega),List.getElem?_drop,List.length_map,List.length_take,Nat.min_eq_right (by omega)]
   rw [List.getElem?_eq_none (by omega),List.getElem?_eq_none (l:=h) (by omega)]
   rfl
 ·rw [if_neg hk]
  by_cases hl:p≤h.length
  ·rw [List.getElem?_append_right (by simp;omega),List.getElem?_drop,List.length_map,List.length_take,Nat.min_eq_left hl]
   congr 1;omega
  ·rw [List.getElem?_append_right (by simp;omega),List.getElem?_eq_none (by simp;omega),List.getElem?_eq_none (by omega)]
theorem GZ {p:Nat} {h:List (Option Ob)} (hp:h[p]?=some none) (o:Ob) (k:Nat):(Ag (Bb p h) o)[k]?=if k=p then some (some o) else (Bb p h)[k]?:=by
 by_cases hk:k=p
 ·rw [if_pos hk,hk]
  have:=B9 (Bb p h) o
  rwa [GE hp] at this
 ·rw [if_neg hk]
  exact Be _ _ _ (by rw [GE hp];exact hk)
theorem D4 {C:Ctx} {env:List V} {h1 h2:List (Option Ob)} {xs:List V} {a:Act} {w:World} {vs:List Value} (hr:IA C ⟨env,h1⟩ xs a w vs)
 (h21:∀(k:Nat) (x:Ob),h2[k]?=some (some x)→h1[k]?=some (some x)∨(x= .hid [] []∧∀y,h1[k]?≠some (some y))) (h12:∀(k:Nat) (x:Ob),h1[k]?=some (some x)→h2[k]?=some (some x)∨x= .hid [] []):IA C ⟨env,h2⟩ xs a w vs:=by
 obtain ⟨I,bl,h0,he,hx,hh⟩:=hr
 refine ⟨I,bl,h0,he,hx,⟨?_,?_,hh.apart,hh.own,hh.imm,hh.kept⟩⟩
 ·intro id o ho
  rcases h21 id o ho with h|⟨rfl,h⟩
  ·exact hh.obj id o h
  ·refine ⟨?_,rfl,fun i v x hv=>by simp at hv⟩
   cases hb:bl id with
   | none=>rfl
   | some i=>
     obtain ⟨y,hy⟩:=hh.live id i hb
     exact absurd hy (h y)
 ·intro id i hi
  obtain ⟨o,ho⟩:=hh.live id i hi
  rcases h12 id o ho with h|rfl
  ·exact ⟨o,h⟩
  ·have:=(hh.obj id _ ho).1
   rw [this] at hi
   cases hi
theorem b8 {C:Ctx} {env:List V} {h:List (Option Ob)} {a:Act} {w:World} (p:Nat) (hr:Rel C ⟨env,h⟩ a w):Rel C ⟨env,Bb p h⟩ a w:=by
 refine D4 hr (fun k x hx=>?_) (fun k x hx=>?_)
 ·rw [JE] at hx
  split at hx
  ·cases hk:h[k]? with
   | none=>rw [hk] at hx;cases hx
   | some y=>
     rw [hk] at hx
     simp only [Option.map_some,Option.some.injEq] at hx
     cases y with
     | none=>
       simp only [HH,Option.some.injEq] at hx
       exact .inr ⟨hx.symm,fun y=>by simp⟩
     | some o=>simp only [HH,Option.some.injEq] at hx;subst hx;exact .inl rfl
  ·exact .inl hx
 ·rw [JE]
  split
  ·rw [hx];exact .inl rfl
  ·exact .inl hx
theorem TS {C:Ctx} {env:List V} {h:List (Option Ob)} {xs:List V} {a:Act} {w:World} {vs:List Value} {p:Nat} {o:Ob} (hp:h[p]?=some none) (hr:IA C ⟨env,Ag (Bb p h) o⟩ xs a w vs):IA C ⟨env,h.set p (some o)⟩ xs a w vs:=by
 have hlt:=(List.getElem?_eq_some_iff.1 hp).1
 refine D4 hr (fun k x hx=>.inl ?_) (fun k x hx=>?_)
 ·rw [GZ hp]
  by_cases hk:k=p
  ·subst hk
   rw [if_pos rfl]
   simpa [hlt] using hx
  ·rw [if_neg hk]
   rw [List.getElem?_set_ne (Ne.symm hk)] at hx
   rw [JE]
   split
   ·rw [hx];rfl
   ·exact hx
 ·rw [GZ hp] at hx
  by_cases hk:k=p
  ·subst hk
   rw [if_pos rfl] at hx
   exact .inl (by simpa [hlt] using hx)
  ·rw [if_neg hk,JE] at hx
   rw [List.getElem?_set_ne (Ne.symm hk)]
   split at hx
   ·cases hk:h[k]? with
    | none=>rw [hk] at hx;cases hx
    | some y=>
      rw [hk] at hx
      simp only [Option.map_some,Option.some.injEq] at hx
      cases y with
      | none=>
        simp only [HH,Option.some.injEq] at hx
        exact .inr hx.symm
      | some o=>simp only [HH,Option.some.injEq] at hx;subst hx;exact .inl rfl
   ·exact .inl hx
theorem U9 (env env':List V) (p:Nat) (h:List (Option Ob)) (id:Nat):St.row ⟨env,Bb p h⟩ id=St.row ⟨env',h⟩ id:=by
 unfold St.row
 simp only
 rw [JE]
 by_cases hp:id < p
 ·rw [if_pos hp]
  cases hk:h[id]? with
  | none=>rfl
  | some y=>cases y<;>rfl
 ·rw [if_neg hp]
section mk
variable {C:Ctx}
def IC (o:Oper) (s:St):Prop:=match o.op with
 | .alloc _=>True
 | .makeSlice _ _ _=>True
 | .buildSlice _ _ _=>True
 | .call c=>match c.callee,c.args.toList,c.argTypes.toList with
   | .builtin .append,[s0,_],[_,_]=>s.val s0= .nils
   | _,_,_=>False
 | _=>False
def JF (op:Op):Bool:=match op with
 | .alloc _=>true
 | .makeSlice _ _ _=>true
 | .buildSlice _ _ _=>true
 | .call c=>(match c.callee with|.value _=>true|_=>false)
 | _=>false
theorem RJ {s:St} {z:Nat} {x:V} {k:List V→Prop} (h:HB s z x k):∃els,k els∧∀s2:St,Fu s s2→∀k2:List V→Prop,k2 els→HB s2 z x k2:=by
 unfold HB at h
 split at h
 ·rename_i l
  exact ⟨l,h.2,fun s2 he k2 hk=>⟨h.1,hk⟩⟩
 ·exact ⟨[],h,fun s2 he k2 hk=>hk⟩
 ·rename_i id off n
  split at h
  ·rename_i z' els hrow
   refine ⟨_,h.2.2,fun s2 he k2 hk=>?_⟩
   unfold HB
   simp only [he _ _ _ hrow]
   exact ⟨h.1,h.2.1,hk⟩
  ·exact h.elim
 ·rename_i b
  exact ⟨_,h.2,fun s2 he k2 hk=>⟨h.1,hk⟩⟩
 ·exact h.elim
theorem Pf {o:Oper} {s:St} {K:V→St→Prop} (hm:IC o s) (h:DJ C o s K):∃r ob,K r { s with heap:=Ag s.heap ob}∧
 ∀(K2:V→St→Prop) (s2:St),(∀x∈o.op.operands.toList,s2.val x=s.val x)→(Fu s s2∨JF o.op=true)→AG s2.heap=AG s.heap→K2 r { s2 with heap:=Ag s2.heap ob}→DJ C o s2 K2∧IC o s2:=by
 unfold IC at hm
 split at hm
 ·rename_i t ho
  unfold DJ at h
  simp only [ho] at h
  unfold IT at h
  split at h
  ·rename_i x hx
   refine ⟨_,_,h,fun K2 s2 hv he hf k=>⟨?_,by simp [IC,ho]⟩⟩
   unfold DJ
   simp only [ho]
   unfold IT
   simp only [hx]
   rw [hf]
   exact k
  ·exact h.elim
 ·rename_i t l c ho
  unfold DJ at h
  simp only [ho] at h
  unfold L8 at h
  split at h
  ·rename_i k1 n k2 m hl hc
   split at h
   ·rename_i e z hei
    split at h
    ·rename_i x hx
     obtain ⟨a1,a2,a3,a4,a5,a6,a7⟩:=h
     refine ⟨_,_,a7,fun K2 s2 hv he hf k=>⟨?_,by simp [IC,ho]⟩⟩
     unfold DJ
     simp only [ho]
     unfold L8
     rw [hv l (by simp [ho,Op.operands]),hv c (by simp [ho,Op.operands]),hl,hc]
     simp only [hei,hx]
     rw [hf]
     exact ⟨a1,a2,a3,a4,a5,a6,k⟩
    ·exact h.elim
   ·exact h.elim
  ·exact h.elim
 ·rename_i t n ps ho
  unfold DJ at h
  simp only [ho] at h
  unfold Fg at h
  split at h
  ·rename_i e z hei
   obtain ⟨a1,a2,a3,a4,a5⟩:=h
   refine ⟨_,_,a5,fun K2 s2 hv he hf k=>⟨?_,by simp [IC,ho]⟩⟩
   unfold DJ
   simp only [ho]
   have e1:ps.toList.map (fun p=>(p.1,s2.val p.2))=ps.toList.map (fun p=>(p.1,s.val p.2)):=List.map_congr_left fun p hp=>by
    rw [hv p.2 (by rw [ho];simp [Op.operands];exact ⟨p.1,by simpa using hp⟩)]
   rw [e1]
   unfold Fg
   simp only [hei]
   rw [hf]
   exact ⟨a1,a2,a3,a4,k⟩
  ·exact h.elim
 ·rename_i c ho
  obtain ⟨callee,args,ts⟩:=c
  simp only at hm
  split at hm
  ·rename_i s0 x t t' h2 h3
   unfold DJ at h
   simp only [ho,h2,h3] at h
   unfold Qt at h
   split at h
   ·rename_i e z hei
    obtain ⟨a1,a2,a3⟩:=h
    have e0:s0∈o.op.operands.toList:=by simp [ho,Op.operands,Call.operands,Nx h2]
    have e1:x∈o.op.operands.toList:=by simp [ho,Op.operands,Call.operands,Nx h2]
    obtain ⟨els,b1,c2⟩:=RJ a3
    rw [hm] at b1
    unfold Ls at b1
    simp only at b1
    refine ⟨_,_,b1.2.2,fun K2 s2 hv he hf k=>⟨?_,?_⟩⟩
    ·have he:Fu s s2:=he.elim id fun h=>by rw [ho] at h;cases h
     unfold DJ
     simp only [ho,h2,h3]
     unfold Qt
     simp only [hei]
     refine ⟨a1,a2,?_⟩
     rw [hv s0 e0,hv x e1,hm]
     refine c2 s2 he _ ?_
     unfold Ls
     simp only
     rw [hf]
     exact ⟨b1.1,b1.2.1,k⟩
    ·simp only [IC,ho,h2,h3]
     rw [hv s0 e0]
     exact hm
   ·exact h.elim
  ·exact hm.elim
 ·exact hm.elim
def Ym (C:Ctx) (f:FuncId) (xs:List V) (m z:Nat) (els:List V):Prop:=∀s:St,Lw C f xs (fun r s'=>r= .sl (AG s.heap) 0 m∧s'=⟨s.env,Ag s.heap (.row z els)⟩) s
def jd (C:Ctx) (o:Oper) (r:V) (x:Ob) (p:Nat) (s:St):Prop:=
 ∃fop args ts f caps m z els,o.op= .call { callee:=.value fop,args:=args,argTypes:=ts}∧s.val fop= .fn f caps∧AB C.P f=true∧Ym C f (args.toList.map s.val++caps) m z els∧r= .sl p 0 m∧x= .row z els
theorem Yn {o:Oper} {r:V} {x:Ob} {p:Nat} {s:St} (h:jd C o r x p s) (hp:s.heap[p]?=some none):DJ C o ⟨s.env,Bb p s.heap⟩ (fun r' s'=>r'=r∧s'=⟨s.env,Ag (Bb p s.heap) x⟩):=by
 obtain ⟨fop,args,ts,f,caps,m,z,els,ho,hf,hb,hc,rfl,rfl⟩:=h
 unfold DJ
 simp only [ho]
 refine BM ?_
 have hv:∀y,St.val ⟨s.env,Bb p s.heap⟩ y=s.val y:=fun y=>by cases y<;>rfl
 unfold Dz
 rw [hv fop,hf]
 refine ⟨hb,?_⟩
 have:=hc ⟨s.env,Bb p s.heap⟩
 rw [show St.val ⟨s.env,Bb p s.heap⟩=s.val from funext hv]
 rw [show AG (St.heap ⟨s.env,Bb p s.heap⟩)=p from GE hp] at this
 exact this
theorem Yo {o:Oper} {r:V} {x:Ob} {p:Nat} {s s2:St} (h:jd C o r x p s) (hv:∀y∈o.op.operands.toList,s2.val y=s.val y):jd C o r x p s2:=by
 obtain ⟨fop,args,ts,f,caps,m,z,els,ho,hf,hb,hc,rfl,rfl⟩:=h
 have e0:s2.val fop=s.val fop:=hv fop (by simp [ho,Op.operands,Call.operands])
 have e1:args.toList.map s2.val=args.toList.map s.val:=List.map_congr_left fun y hy=>hv y (by simp [ho,Op.operands,Call.operands];exact .inr (by simpa using hy))
 exact ⟨fop,args,ts,f,caps,m,z,els,ho,by rw [e0];exact hf,hb,by rw [e1];exact hc,rfl,rfl⟩
end mk
end
end Go.Proofs.YtkaiffheakalmaaGreatDoor
