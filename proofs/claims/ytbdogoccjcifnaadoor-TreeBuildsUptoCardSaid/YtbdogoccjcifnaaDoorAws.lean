/- Abstract walk by reckoning: it is sound. No conditions. -/
import Derived.Test.YtbdogoccjcifnaaDoorAwr
set_option linter.unusedSimpArgs false
set_option linter.unusedVariables false
set_option maxRecDepth 100000
namespace Go.Proofs.YtbdogoccjcifnaaDoor
open Go.RowKit

theorem br_and {b c : Bool} {A : Prop} (h : Br b (Br c A False) False) : b = true ∧ c = true ∧ A := by
  have h1 := br_only h
  have h2 := br_only h1.2
  exact ⟨h1.1, h2.1, h2.2⟩
theorem nbeq {a b : Nat} (h : Nat.beq a b = true) : a = b := Nat.eq_of_beq_eq_true h
theorem bn1 {b : Bool} {n : Nat} (h : (b || Nat.beq n 1) = true) : b = false → n = 1 := by
  intro hb
  subst hb
  exact nbeq (by simpa using h)
section
variable {T : TT} {C : Ctx} {σ : ES} {K : V → ES → Prop}

theorem eUn_ok {op : UnOp} {x : V} (h : eUn op x fun r => K r σ) : UnK op x (Kst K) σ.st := by
  unfold UnK
  cases op with
  | not => cases x <;> first | exact kst h | exact (h : False).elim
  | neg => cases x <;> first | exact kst (eInt_elim (K := fun r => K r σ) h) | exact (h : False).elim
  | _ => exact (h : False).elim
theorem eSrc_ok {z : Nat} {x : V} {k : List V → Prop} (h : eSrc σ z x k) : SrcK σ.st z x k := by
  unfold SrcK
  cases x with
  | lst l => exact h
  | nils => exact h
  | sl id off n =>
    obtain ⟨z', els, h1, h2⟩ := eRow_elim h
    have h2 := br_only h2
    simp only [h1]
    exact ⟨nbeq h2.1, h2.2.1, h2.2.2⟩
  | str b =>
    have h := br_only h
    exact ⟨nbeq h.1, h.2⟩
  | _ => exact (h : False).elim
theorem srcK_mono {s : St} {z : Nat} {x : V} {k k' : List V → Prop} (h : SrcK s z x k) (hk : ∀ l, k l → k' l) : SrcK s z x k' := by
  unfold SrcK at *
  split at h
  · exact ⟨h.1, hk _ h.2⟩
  · exact hk _ h
  · split at h
    · exact ⟨h.1, h.2.1, hk _ h.2.2⟩
    · exact h.elim
  · exact ⟨h.1, hk _ h.2⟩
  · exact h.elim
theorem eBytes_ok (hT : T.All C.P) {s d : TypeId} {x : V} (h : eConv.eBytes T σ s d x fun r => K r σ) : (∃ e, EI C.P s = some (e, 1) ∧ intK C.P e = some .u8) ∧ isStr C.P d = true ∧ SrcK σ.st 1 x fun els => ∃ bs : List UInt8, els = bs.map byteV ∧ bs.length ≤ maxLen ∧ Kst K (.str bs) σ.st := by
  unfold eConv.eBytes at h
  split at h
  · rename_i e z he
    split at h
    · rename_i k hk
      have h1 := br_only h
      obtain ⟨h2, h3, h4⟩ := br_and h1.2
      obtain rfl := nbeq h1.1
      have hk8 : k = .u8 := by simpa [ikB] using h2
      subst hk8
      refine ⟨⟨e, oeq_some (TT.ok hT s).ei he, oeq_some (TT.ok hT e).ik hk⟩, beq_true (TT.ok hT d).str h3, srcK_mono (eSrc_ok h4) ?_⟩
      rintro l ⟨bs, b1, b2, b3⟩
      exact ⟨bs, b1, b2, kst b3⟩
    · exact h.elim
  · exact h.elim
theorem eConv_ok (hT : T.All C.P) {q : Bool} {s d : TypeId} {x : V} (h : eConv T q σ s d x fun r => K r σ) : ConvX C s d x (Kst K) σ.st ∧ (q = true → ConvQ C s d x (Kst K) σ.st) := by
  cases x with
  | int k0 n =>
    have : ConvK C.P s d (.int k0 n) (Kst K) σ.st := by
      unfold ConvK
      simp only [eConv] at h
      split at h
      · rename_i k hk
        have h := br_only h
        simp only [oeq_some (TT.ok hT d).ik hk]
        have hu := beq_true (TT.ok hT s).un h.1
        cases hs : C.P.underlying s with
        | none => simp [hs] at hu
        | some y => exact kst (eInt_elim (K := fun r => K r σ) h.2)
      · exact h.elim
    exact ⟨this, fun _ => this⟩
  | str l =>
    have : ConvK C.P s d (.str l) (Kst K) σ.st := by
      unfold ConvK
      obtain ⟨h1, h2, h3⟩ := br_and h
      simp only [beq_true (TT.ok hT d).str h1, beq_true (TT.ok hT s).str h2]
      exact kst h3
    exact ⟨.inl this, fun _ => this⟩
  | lst l => exact ⟨eBytes_ok hT h, fun _ => eBytes_ok hT h⟩
  | sl a b c =>
    cases q with
    | true => exact (h : False).elim
    | false => exact ⟨eBytes_ok hT h, fun h => by cases h⟩
  | nils =>
    cases q with
    | true => exact (h : False).elim
    | false => exact ⟨eBytes_ok hT h, fun h => by cases h⟩
  | _ => exact (h : False).elim
theorem eExtr_ok {x : V} {i : Nat} (h : eExtr x i fun r => K r σ) : ExtrK x i (Kst K) σ.st := by
  unfold ExtrK
  cases x <;> first | (obtain ⟨y, h1, h2⟩ := get_elim h; exact ⟨y, h1, kst h2⟩) | exact (h : False).elim
theorem fi_of (hT : T.All C.P) {s : TypeId} {f : Nat} {y : Nat × Bool × Nat} (h : (T.get s).fi[f]? = some (some y)) : FI C.P s f = some y := by
  have := fi_ok (TT.ok hT s).fi h
  rwa [Nat.zero_add] at this
theorem eFld_ok (hT : T.All C.P) {s : TypeId} {x : V} {f : Nat} (h : eFld T s x f fun r => K r σ) : FldK C s x f (Kst K) σ.st := by
  unfold FldK
  cases x with
  | agg cs =>
    simp only [eFld] at h
    split at h
    · rename_i off b n hf
      obtain ⟨h1, h2, h3⟩ := br_and h
      rw [fi_of hT hf]
      exact ⟨bn1 h1, by simpa using h2, kst h3⟩
    · exact h.elim
  | _ => exact (h : False).elim
theorem eIdx_ok (hT : T.All C.P) {t : TypeId} {x i : V} (h : eIdx T t x i fun r => K r σ) : IdxK C t x i (Kst K) σ.st := by
  unfold IdxK
  cases x with
  | str s =>
    have h := br_only h
    obtain ⟨k, n, rfl, h0, h2⟩ := eNat_elim h.2
    obtain ⟨c, h3, h4⟩ := get_elim h2
    exact ⟨h0, beq_true (TT.ok hT t).str h.1, c, h3, kst h4⟩
  | agg cs =>
    simp only [eIdx] at h
    split at h
    · rename_i m b z ha
      have h := br_only h
      obtain ⟨k, n, rfl, h0, h2⟩ := eNat_elim h.2
      simp only [oeq_some (TT.ok hT t).ai ha]
      exact ⟨h0, bn1 h.1, h2.1, h2.2.1, kst h2.2.2⟩
    · exact h.elim
  | _ => exact (h : False).elim
theorem eCut_elim {lo hi : Option V} {len : Nat} {k : Option Nat → Option Nat → Prop} (h : eCut lo hi len k) : ∃ l h' a b, loOf lo = some l ∧ hiOf len hi = some h' ∧ l ≤ h' ∧ h' ≤ len ∧ k a b ∧ (a = some l ∨ (a = none ∧ l = 0)) ∧ (b = some h' ∨ (b = none ∧ h' = len)) := by
  unfold eCut at h
  split at h
  · split at h
    · exact ⟨0, len, none, none, rfl, rfl, Nat.zero_le _, Nat.le_refl _, h, .inr ⟨rfl, rfl⟩, .inr ⟨rfl, rfl⟩⟩
    · obtain ⟨kd, n, rfl, h0, h⟩ := eNat_elim h
      exact ⟨0, n.toNat, none, some n.toNat, rfl, by simp [hiOf, h0], Nat.zero_le _, h.1, h.2, .inr ⟨rfl, rfl⟩, .inl rfl⟩
  · split at h
    · obtain ⟨kd, n, rfl, h0, h⟩ := eNat_elim h
      exact ⟨n.toNat, len, some n.toNat, none, by simp [loOf, h0], rfl, h.1, Nat.le_refl _, h.2, .inl rfl, .inr ⟨rfl, rfl⟩⟩
    · obtain ⟨kd, n, rfl, h0, h⟩ := eNat_elim h
      obtain ⟨kd', n', rfl, h0', h⟩ := eNat_elim h
      exact ⟨n.toNat, n'.toNat, some n.toNat, some n'.toNat, by simp [loOf, h0], by simp [hiOf, h0'], h.1, h.2.1, h.2.2, .inl rfl, .inl rfl⟩
theorem eSlice_ok (hT : T.All C.P) {t : TypeId} {x : V} {lo hi : Option V} (h : eSlice T σ t x lo hi fun r => K r σ) : SliceK C.P t x lo hi (Kst K) σ.st := by
  unfold SliceK
  cases x with
  | str s =>
    have h := br_only h
    obtain ⟨l, h', a, b, h1, h2, h3, h4, h5, ha, hb⟩ := eCut_elim h.2
    refine ⟨beq_true (TT.ok hT t).str h.1, ?_⟩
    simp only [h1, h2]
    refine ⟨h3, h4, ?_⟩
    rcases ha with rfl | ⟨rfl, rfl⟩ <;> rcases hb with rfl | ⟨rfl, rfl⟩
    · exact kst h5
    · rw [List.take_length]; exact kst h5
    · rw [List.drop_zero]; exact kst h5
    · rw [List.take_length, List.drop_zero]; exact kst h5
  | lst s =>
    simp only [eSlice] at h
    split at h
    · rename_i e z he
      obtain ⟨l, h', a, b, h1, h2, h3, h4, h5, ha, hb⟩ := eCut_elim h.2
      simp only [oeq_some (TT.ok hT t).ei he, h1, h2]
      refine ⟨h.1, h3, h4, ?_⟩
      rcases ha with rfl | ⟨rfl, rfl⟩ <;> rcases hb with rfl | ⟨rfl, rfl⟩
      · exact kst h5
      · rw [List.take_length]; exact kst h5
      · rw [List.drop_zero]; exact kst h5
      · rw [List.take_length, List.drop_zero]; exact kst h5
    · exact h.elim
  | sl id off n =>
    simp only [eSlice] at h
    split at h
    · rename_i e z he
      obtain ⟨z', els, hr, h⟩ := eRow_elim h
      have h := br_only h
      obtain ⟨l, h', a, b, h1, h2, h3, h4, h5, ha, hb⟩ := eCut_elim h.2
      simp only [oeq_some (TT.ok hT t).ei he, hr, h1, h2]
      refine ⟨nbeq h.1, h3, h4, ?_⟩
      rcases ha with rfl | ⟨rfl, rfl⟩ <;> rcases hb with rfl | ⟨rfl, rfl⟩
      all_goals exact kst h5
    · exact h.elim
  | gp g =>
    simp only [eSlice] at h
    split at h
    · rename_i m b z ha
      split at h
      · split at h
        · have h := br_only h
          simp only [oeq_some (TT.ok hT t).ai ha]
          exact ⟨trivial, trivial, Nat.le_trans (Nat.le_of_ble_eq_true h.1) (by simp [maxLen]), kst h.2⟩
        · exact h.elim
      · exact h.elim
    · exact h.elim
  | _ => exact (h : False).elim
theorem eIdxAddr_ok (hT : T.All C.P) {t : TypeId} {x i : V} (h : eIdxAddr T σ t x i fun r => K r σ) : IdxAddrK C t x i (Kst K) σ.st := by
  unfold IdxAddrK
  cases x with
  | lst l =>
    simp only [eIdxAddr] at h
    split at h
    · rename_i e z he
      obtain ⟨k, n, rfl, h0, h⟩ := eNat_elim h
      obtain ⟨y, h1, h2⟩ := get_elim h
      have h2 := br_only h2
      simp only [oeq_some (TT.ok hT t).ei he]
      exact ⟨h0, y, h1, nbeq h2.1, kst h2.2⟩
    · exact h.elim
  | sl id off len =>
    simp only [eIdxAddr] at h
    split at h
    · rename_i e z he
      obtain ⟨z', els, hr, h⟩ := eRow_elim h
      have h := br_only h
      obtain ⟨k, n, rfl, h0, h2⟩ := eNat_elim h.2
      simp only [oeq_some (TT.ok hT t).ei he, hr]
      exact ⟨h0, nbeq h.1, h2.1, kst h2.2⟩
    · exact h.elim
  | ptr id a b =>
    simp only [eIdxAddr] at h
    split at h
    · rename_i m b' z he
      obtain ⟨k, n, rfl, h0, h⟩ := eNat_elim h
      simp only [oeq_some (TT.ok hT t).ai he]
      exact ⟨h0, h.1, kst h.2⟩
    · exact h.elim
  | rp l =>
    simp only [eIdxAddr] at h
    split at h
    · rename_i m b' z he
      obtain ⟨k, n, rfl, h0, h⟩ := eNat_elim h
      simp only [oeq_some (TT.ok hT t).ai he]
      exact ⟨h0, h.1, kst h.2⟩
    · exact h.elim
  | _ => exact (h : False).elim
theorem eFldAddr_ok (hT : T.All C.P) {s : TypeId} {x : V} {f : Nat} (h : eFldAddr T s x f fun r => K r σ) : FldAddrK C s x f (Kst K) σ.st := by
  unfold FldAddrK
  unfold eFldAddr at h
  split at h
  · rename_i off b n hf
    rw [fi_of hT hf]
    cases x <;> first | exact kst h | exact (h : False).elim
  · exact h.elim
theorem eLoad_ok (hT : T.All C.P) {t : TypeId} {p : V} (h : eLoad T σ t p fun r => K r σ) : LoadK C t p (Kst K) σ.st := by
  unfold LoadK
  unfold eLoad at h
  split at h
  · rename_i b n ht
    have h := br_only h
    simp only [oeq_some (TT.ok hT t).ti ht]
    refine ⟨bn1 h.1, ?_⟩
    cases p with
    | rp l =>
      have h := br_only h.2
      exact ⟨by simpa using h.1, kst h.2⟩
    | ptr id i j =>
      obtain ⟨z', els, hr, h⟩ := eRow_elim h.2
      obtain ⟨x, h1, h2⟩ := get_elim h
      have h2 := br_only h2
      simp only [hr]
      exact ⟨x, h1, by simpa using h2.1, kst h2.2⟩
    | _ => exact (h.2 : False).elim
  · exact h.elim
theorem eStore_ok (hT : T.All C.P) {t : TypeId} {p v : V} (h : eStore T t p v K σ) : StoreK C t p v (Kst K) σ.st := by
  unfold StoreK
  unfold eStore at h
  split at h
  · rename_i b n ht
    obtain ⟨h1, h2, h3⟩ := br_and h
    rcases br_elim h3 with ⟨_, h3⟩ | ⟨h4, h3⟩
    · exact h3.elim
    simp only [oeq_some (TT.ok hT t).ti ht]
    refine ⟨h1, nbeq h2, fun e => (by subst e; cases h4), ?_⟩
    cases p with
    | ptr id i j =>
      obtain ⟨z', els, hr, h⟩ := eRow_elim h3
      obtain ⟨x, g1, g2⟩ := get_elim h
      have g2 := br_only g2
      simp only [hr]
      simp only [fV_eq, fH_eq, withH_eq] at g2
      exact ⟨x, g1, by simpa using g2.1, ⟨_, rfl, g2.2⟩⟩
    | _ => exact (h3 : False).elim
  · exact h.elim
theorem eNew_elim {o : Ob} {k : Nat → ES → Prop} (h : eNew σ o k) : k (freshIn σ.heap) ⟨σ.n, σ.u, putOb σ.heap o⟩ := by
  simpa only [eNew, nF_eq, fH_eq, withH_eq] using h
theorem eBox_ok (hT : T.All C.P) {t : TypeId} {v : V} (h : eBox T t v K σ) : BoxK C t v (Kst K) σ.st := by
  unfold BoxK
  unfold eBox at h
  split at h
  · rename_i b n ht
    obtain ⟨h1, h2, h3⟩ := br_and h
    simp only [oeq_some (TT.ok hT t).ti ht]
    exact ⟨h1, nbeq h2, ⟨_, rfl, eNew_elim h3⟩⟩
  · exact h.elim
theorem eAlloc_ok (hT : T.All C.P) {t : TypeId} (h : eAlloc T t K σ) : AllocQ C t (Kst K) σ.st := by
  unfold AllocQ
  unfold eAlloc at h
  split at h
  · rename_i x hx
    simp only [oeqv_some (TT.ok hT t).zv hx]
    exact ⟨_, rfl, eNew_elim h⟩
  · exact h.elim
theorem eBuild_ok (hT : T.All C.P) {t : TypeId} {ps : List (Nat × V)} (h : eBuild T t ps fun r => K r σ) : BuildK C t ps (Kst K) σ.st := by
  unfold BuildK
  unfold eBuild at h
  split at h
  · rename_i pl hp
    split at h
    · rename_i c0 hz
      obtain ⟨cs, h1, h2⟩ := get_elim h
      simp only [oeq_some (TT.ok hT t).si hp, oeqv_some (TT.ok hT t).zv hz, h1]
      exact kst h2
    · exact h.elim
  · exact h.elim
theorem eFn_ok {fn : Fn} {first cap : List V} (h : eFn fn first cap fun r => K r σ) : FnK fn first cap (Kst K) σ.st := by
  unfold FnK
  unfold eFn at h
  split at h
  · split at h
    · exact kst h
    · exact h.elim
  · exact h.elim
theorem eNilCk_ok {x : V} (h : eNilCk x fun r => K r σ) : NilCkK x (Kst K) σ.st := by
  unfold NilCkK
  cases x <;> first | exact kst h | exact (h : False).elim
theorem eRange_ok (hT : T.All C.P) {t : TypeId} {x : V} (h : eRange T t x K σ) : RangeK C t x (Kst K) σ.st := by
  unfold RangeK
  cases x with
  | str s =>
    have h := br_only h
    exact ⟨beq_true (TT.ok hT t).str h.1, ⟨_, rfl, eNew_elim h.2⟩⟩
  | _ => exact (h : False).elim
theorem eNext_ok {x : V} {b : Bool} (h : eNext x b K σ) : NextK x b (Kst K) σ.st := by
  unfold NextK
  cases x with
  | it id =>
    have h := br_only h
    refine ⟨h.1, ?_⟩
    obtain ⟨o, h1, h2⟩ := get_elim h.2
    rw [es_heap, h1]
    cases o with
    | none => exact h2.elim
    | some o =>
      cases o with
      | row z els => exact h2.elim
      | hid vs l => exact h2.elim
      | bld T y => exact h2.elim
      | buf U s => exact h2.elim
      | mp es => exact h2.elim
      | iter s pos =>
        simp only at h2 ⊢
        simp only [fH_eq, withH_eq] at h2
        exact ⟨fun hp => ⟨_, rfl, h2.t hp⟩, fun hn => kst (h2.f hn)⟩
  | _ => exact (h : False).elim
theorem eBSlice_ok (hT : T.All C.P) {t : TypeId} {n : Nat} {ps : List (Nat × V)} (h : eBSlice T t n ps K σ) : BSliceK C t n ps (Kst K) σ.st := by
  unfold BSliceK
  unfold eBSlice at h
  split at h
  · rename_i e z he
    split at h
    · rename_i z' hz
      obtain ⟨h1, h2, h3⟩ := br_and h
      obtain ⟨h4, h5, h6⟩ := br_and h3
      obtain rfl := nbeq h1
      simp only [oeq_some (TT.ok hT t).ei he]
      have hzok := (TT.ok hT e).zok
      rw [hz] at hzok
      simp only [fL1_eq] at h6
      refine ⟨hzok, by simpa using h2, by simpa using h4, fun v hv => ?_, ⟨_, rfl, eNew_elim h6⟩⟩
      have := List.all_eq_true.1 h5 v hv
      simp only [Bool.and_eq_true] at this
      exact ⟨this.1, nbeq this.2⟩
    · exact h.elim
  · exact h.elim
theorem eStrB_ok (hT : T.All C.P) {s d : TypeId} {b : List UInt8} (h : eStrB T s d b K σ) : StrBK C s d b (Kst K) σ.st := by
  unfold eStrB at h
  split at h
  · rename_i e z he
    split at h
    · rename_i k hk
      obtain ⟨h1, h2, h3⟩ := br_and h
      obtain ⟨h4, h5⟩ := br_only h3
      obtain rfl := nbeq h1
      have hk8 : k = .u8 := by simpa [ikB] using h2
      subst hk8
      exact ⟨e, oeq_some (TT.ok hT d).ei he, oeq_some (TT.ok hT e).ik hk, beq_true (TT.ok hT s).str h4, _, rfl, eNew_elim h5⟩
    · exact h.elim
  · exact h.elim
theorem isZ_elim {v : V} (h : isZ v = true) : ∃ k, v = .int k 0 := by
  cases v with
  | int k n => exact ⟨k, by simp [isZ] at h; rw [h]⟩
  | _ => cases h
theorem eCut0_ok (hT : T.All C.P) {t : TypeId} {x h m : V} (hh : eCut0 T t x h m K σ) : Cut0K C t x h m (Kst K) σ.st := by
  have hh := br_only hh
  obtain ⟨h1, h2⟩ := hh
  simp only [Bool.and_eq_true] at h1
  obtain ⟨⟨g1, g2⟩, g3⟩ := h1
  obtain ⟨k1, rfl⟩ := isZ_elim g1
  obtain ⟨k2, rfl⟩ := isZ_elim g2
  split at h2
  · rename_i e z he
    unfold Cut0K
    refine ⟨rfl, rfl, ?_⟩
    simp only [oeq_some (TT.ok hT t).ei he]
    have := eNew_elim h2
    cases x <;> first | exact ⟨_, rfl, this⟩ | cases g3
  · exact h2.elim
theorem eMake_ok (hT : T.All C.P) {t : TypeId} {l c : V} (h : eMake T t l c K σ) : MakeK C t l c (Kst K) σ.st := by
  unfold eMake at h
  split at h
  · rename_i e z he
    split at h
    · rename_i x hx
      split at h
      · rename_i z' hz
        split at h
        · rename_i b hb
          have h := br_only h
          obtain ⟨h1, h2⟩ := h
          simp only [Bool.and_eq_true] at h1
          have hzok := (TT.ok hT e).zok
          rw [hz] at hzok
          have hby := (TT.ok hT e).by'
          rw [hb] at hby
          obtain rfl := nbeq h1.1
          cases l with
          | int k1 n =>
            cases c with
            | int k2 m =>
              have h2 := h2
              unfold MakeK
              simp only [oeq_some (TT.ok hT t).ei he, oeqv_some (TT.ok hT e).zv hx]
              refine ⟨hzok, nbeq h1.2, h2.1.1, h2.1.2.1, ?_, h2.1.2.2.2, ⟨_, rfl, eNew_elim h2.2⟩⟩
              have e1 : byOf C.P e = b := hby
              rw [e1]
              exact h2.1.2.2.1
            | _ => exact h2.elim
          | _ => exact h2.elim
        · exact h.elim
      · exact h.elim
    · exact h.elim
  · exact h.elim
theorem eAppTo_ok {e : TypeId} {n z : Nat} (hn : byOf C.P e = n) {s : V} {news : List V} (h : eAppTo n z s K σ news) : AppTo C e z s (Kst K) σ.st news := by
  unfold AppTo
  rw [hn]
  cases s with
  | nils =>
    exact ⟨h.1.1, h.1.2, ⟨_, rfl, eNew_elim h.2⟩⟩
  | sl id off k =>
    obtain ⟨z', els, hr, h⟩ := eRow_elim h
    have h := br_only h
    simp only [hr]
    refine ⟨nbeq h.1, h.2.1.1, h.2.1.2.1, h.2.1.2.2, ?_⟩
    have h2 := h.2.2
    simp only [killUE_eq, fH_eq, withH_eq] at h2
    refine ⟨_, ?_, h2⟩
    unfold ES.st
    congr 1
    exact env_kill σ.n id σ.u σ.heap _
  | _ => exact (h : False).elim
theorem eApp_ok (hT : T.All C.P) {t t' : TypeId} {s x : V} (h : eApp T t t' s x K σ) : AppK C t t' s x (Kst K) σ.st := by
  unfold AppK
  unfold eApp at h
  split at h
  · rename_i e z he
    split at h
    · rename_i z' hz
      split at h
      · rename_i n hn
        obtain ⟨h1, h2, h3⟩ := br_and h
        obtain rfl := nbeq h1
        simp only [oeq_some (TT.ok hT t).ei he]
        have hzok := (TT.ok hT e).zok
        rw [hz] at hzok
        have hby := (TT.ok hT e).by'
        rw [hn] at hby
        exact ⟨hzok, beq_true (TT.ok hT t').ni h2, srcK_mono (eSrc_ok h3) fun l hl => eAppTo_ok hby hl⟩
      · exact h.elim
    · exact h.elim
  · exact h.elim
theorem eLen_ok (hT : T.All C.P) {q : Bool} {t : TypeId} {x : V} (h : eLen T q t x fun r => K r σ) : LenK C.P t x (Kst K) σ.st ∧ (q = true → LenQ C.P t x (Kst K) σ.st) := by
  cases x with
  | str s =>
    have h := br_only h
    have h1 := beq_true (TT.ok hT t).str h.1
    cases q with
    | true => exact ⟨⟨h1, fun _ => kst h.2⟩, fun _ => ⟨h1, kst h.2⟩⟩
    | false => exact ⟨⟨h1, fun e => kst (h.2 e)⟩, fun h => by cases h⟩
  | lst l =>
    have h := br_only h
    have h1 := beq_true (TT.ok hT t).sli h.1
    cases q with
    | true => exact ⟨⟨h1, fun _ => kst h.2⟩, fun _ => ⟨h1, kst h.2⟩⟩
    | false => exact ⟨⟨h1, fun e => kst (h.2 e)⟩, fun h => by cases h⟩
  | nils =>
    have h := br_only h
    have h1 := beq_true (TT.ok hT t).sli h.1
    exact ⟨⟨h1, kst h.2⟩, fun _ => ⟨h1, kst h.2⟩⟩
  | sl a b n =>
    have h := br_only h
    have h1 := beq_true (TT.ok hT t).sli h.1
    cases q with
    | true => exact ⟨⟨h1, fun _ => kst h.2⟩, fun _ => ⟨h1, kst h.2⟩⟩
    | false => exact ⟨⟨h1, fun e => kst (h.2 e)⟩, fun h => by cases h⟩
  | _ => exact (h : False).elim
theorem map_val (l : List Operand) : l.map σ.st.val = l.map σ.val := List.map_congr_left fun o _ => es_val σ o
theorem eCall_ok {q : Bool} {fop : Operand} {args : List Operand} (h : eCall C q fop args K σ) : (q = false → CallK C fop args (Kst K) σ.st) ∧ (q = true → CallQ C fop args (Kst K) σ.st) := by
  unfold eCall at h
  split at h
  · simp only [fL1_eq] at h
    cases q with
    | true => exact ⟨fun h => (by cases h), fun _ => h.out⟩
    | false => exact ⟨fun _ => h.out, fun h => by cases h⟩
  · exact h.elim

/-- An operation that makes or writes memory. -/
def barOp : Op → Bool
  | .makeSlice _ _ _ => true
  | .slice _ _ _ _ m => m.isSome
  | .buildSlice _ _ _ | .alloc _ | .box _ _ | .store _ _ _ => true
  | .call c => match c.callee with | .builtin .append => true | _ => false
  | _ => false

theorem callQ_K {fop : Operand} {args : List Operand} {K' : V → St → Prop} {s : St} (h : CallQ C fop args K' s) : CallK C fop args K' s := by
  refine up_intro ?_
  unfold CallQ at h
  unfold CallAt
  split at h
  · rename_i g caps hf
    rw [hf]
    rcases h with ⟨h1, ⟨h2, r, h3, h4⟩ | ⟨id, z, els, r, g1, g2, g3, g4, g5, g6⟩ | ⟨id, z, els, id2, z2, els2, r, gn, g1, g1', g2, g2', g3, g4, g5, g6⟩⟩
    · exact ⟨h1, acall_fnC h3 h2 (fun r' e => e ▸ h4)⟩
    · exact ⟨h1, acall_lend id g1 g2 g5 g3 g4 g6⟩
    · exact ⟨h1, acall_lend2 id id2 gn g1 g1' g2 g2' g5 g3 g4 g6⟩
  · exact h.elim

theorem eStep_ok (hT : T.All C.P) {q : Bool} {o : Oper} (h : eStep T C q o.op K σ) : Step C o σ.st (Kst K) ∧ (q = true → barOp o.op = false → QStep C o σ.st (Kst K)) := by
  unfold Step QStep
  cases ho : o.op with
  | move x => simp only [ho, eStep, es_val] at h ⊢; exact ⟨kst h, fun _ _ => kst h⟩
  | assign x => simp only [ho, eStep, es_val] at h ⊢; exact ⟨kst h, fun _ _ => kst h⟩
  | pick c a b =>
    simp only [ho, eStep, es_val] at h ⊢
    have : PickK (σ.val c) (σ.val a) (σ.val b) (Kst K) σ.st := by
      obtain ⟨t, e, h⟩ := asB_elim h
      rw [e]
      unfold PickK
      rcases br_elim h with ⟨rfl, h⟩ | ⟨rfl, h⟩
      · exact ⟨fun _ => kst h, fun e => by cases e⟩
      · exact ⟨fun e => (by cases e), fun _ => kst h⟩
    exact ⟨this, fun _ _ => this⟩
  | binOp op t x y t' =>
    simp only [ho, eStep, es_val] at h ⊢
    split at h
    all_goals first
      | (cases q with
         | true => exact h.elim
         | false => exact ⟨.inr (h.out o ho), fun h => by cases h⟩)
      | skip
    have h' : eBin T q t op (σ.val x) (σ.val y) fun r => Kst K r σ.st := by
      refine eBin_mono h (fun r hr => kst hr)
    have := eBin_ok (σ := σ.st) (K := Kst K) hT h'
    exact ⟨.inl this.1, fun hq _ => this.2 hq⟩
  | unOp op t x => simp only [ho, eStep, es_val] at h ⊢; exact ⟨eUn_ok h, fun _ _ => eUn_ok h⟩
  | convert s d x =>
    simp only [ho, eStep, es_val] at h ⊢
    split at h
    · rename_i b hx
      rw [hx]
      split at h
      · have := eConv_ok hT h
        exact ⟨.inl this.1, fun hq _ => this.2 hq⟩
      · cases q with
        | true => exact h.elim
        | false => exact ⟨.inl (.inr (eStrB_ok hT h)), fun h => by cases h⟩
    · rename_i k n hx
      split at h
      · cases q with
        | true => exact h.elim
        | false => exact ⟨.inr (h.out o ho), fun h => by cases h⟩
      · rw [hx]
        have := eConv_ok hT h
        exact ⟨.inl this.1, fun hq _ => this.2 hq⟩
    · have := eConv_ok hT h
      exact ⟨.inl this.1, fun hq _ => this.2 hq⟩
  | extract x i => simp only [ho, eStep, es_val] at h ⊢; exact ⟨eExtr_ok h, fun _ _ => eExtr_ok h⟩
  | field s x f => simp only [ho, eStep, es_val] at h ⊢; exact ⟨eFld_ok hT h, fun _ _ => eFld_ok hT h⟩
  | index t x i => simp only [ho, eStep, es_val] at h ⊢; exact ⟨eIdx_ok hT h, fun _ _ => eIdx_ok hT h⟩
  | slice t x lo hi mx =>
    simp only [ho, eStep, es_val] at h ⊢
    cases mx with
    | some m =>
      simp only at h ⊢
      cases lo with
      | some l => exact h.elim
      | none =>
        cases hi with
        | none => exact h.elim
        | some hh =>
          simp only at h ⊢
          refine ⟨eCut0_ok hT h, fun hq hb => ?_⟩
          simp [barOp] at hb
    | none =>
      simp only at h ⊢
      have e1 : lo.map σ.st.val = lo.map σ.val := by cases lo <;> simp [es_val]
      have e2 : hi.map σ.st.val = hi.map σ.val := by cases hi <;> simp [es_val]
      rw [e1, e2]
      exact ⟨eSlice_ok hT h, fun _ _ => eSlice_ok hT h⟩
  | makeSlice t l c => simp only [ho, eStep, es_val] at h ⊢; exact ⟨eMake_ok hT h, fun _ hb => by simp [barOp] at hb⟩
  | indexAddr t x i => simp only [ho, eStep, es_val] at h ⊢; exact ⟨eIdxAddr_ok hT h, fun _ _ => eIdxAddr_ok hT h⟩
  | fieldAddr s x f => simp only [ho, eStep, es_val] at h ⊢; exact ⟨eFldAddr_ok hT h, fun _ _ => eFldAddr_ok hT h⟩
  | load t x => simp only [ho, eStep, es_val] at h ⊢; exact ⟨eLoad_ok hT h, fun _ _ => eLoad_ok hT h⟩
  | store t x y => simp only [ho, eStep, es_val] at h ⊢; exact ⟨eStore_ok hT h, fun _ hb => by simp [barOp] at hb⟩
  | box t x => simp only [ho, eStep, es_val] at h ⊢; exact ⟨eBox_ok hT h, fun _ hb => by simp [barOp] at hb⟩
  | alloc t => simp only [ho, eStep] at h ⊢; exact ⟨eAlloc_ok hT h, fun _ hb => by simp [barOp] at hb⟩
  | build t ps => simp only [ho, eStep, es_val] at h ⊢; exact ⟨eBuild_ok hT h, fun _ _ => eBuild_ok hT h⟩
  | makeFunc fn first cap => simp only [ho, eStep, map_val, fL0_eq] at h ⊢; exact ⟨eFn_ok h, fun _ _ => eFn_ok h⟩
  | nilCheck x => simp only [ho, eStep, es_val] at h ⊢; exact ⟨eNilCk_ok h, fun _ _ => eNilCk_ok h⟩
  | range t x =>
    simp only [ho, eStep, es_val] at h ⊢
    cases q with
    | true => exact h.elim
    | false => exact ⟨eRange_ok hT h, fun h => by cases h⟩
  | next x b =>
    simp only [ho, eStep, es_val] at h ⊢
    cases q with
    | true => exact h.elim
    | false => exact ⟨eNext_ok h, fun h => by cases h⟩
  | buildSlice t n ps => simp only [ho, eStep, es_val] at h ⊢; exact ⟨eBSlice_ok hT h, fun _ hb => by simp [barOp] at hb⟩
  | call c =>
    obtain ⟨callee, args, ts⟩ := c
    simp only [ho, eStep] at h ⊢
    cases callee with
    | invoke r m => exact h.elim
    | value f =>
      simp only at h ⊢
      have := eCall_ok h
      cases q with
      | true => exact ⟨callQ_K (this.2 rfl), fun _ _ => this.2 rfl⟩
      | false => exact ⟨this.1 rfl, fun h => by cases h⟩
    | builtin b =>
      have opn : ∀ {c : Call}, eOpN C q (.call c) K σ → o.op = .call c → OpOk C o σ.st (Kst K) ∧ (q = true → False) := by
        intro c h ho
        cases q with
        | true => exact h.elim
        | false => exact ⟨h.out o ho, fun h => by cases h⟩
      simp only [eBuiltin] at h
      cases b with
      | copy => exact ⟨(opn h ho).1, fun hq _ => ((opn h ho).2 hq).elim⟩
      | clear => exact ⟨(opn h ho).1, fun hq _ => ((opn h ho).2 hq).elim⟩
      | cap => exact ⟨(opn h ho).1, fun hq _ => ((opn h ho).2 hq).elim⟩
      | len =>
        simp only at h ⊢
        generalize args.toList = al at h ⊢
        generalize ts.toList = tl at h ⊢
        match al, tl, h with
        | [x], [t], h =>
          simp only [es_val]
          simp only at h
          split at h
          · exact ⟨.inr (opn h ho).1, fun hq _ => ((opn h ho).2 hq).elim⟩
          · have := eLen_ok hT h
            exact ⟨.inl this.1, fun hq _ => this.2 hq⟩
        | [], _, h => exact h.elim
        | _ :: _ :: _, _, h => exact h.elim
        | [x], [], h => exact h.elim
        | [x], _ :: _ :: _, h => exact h.elim
      | append =>
        simp only at h ⊢
        generalize args.toList = al at h ⊢
        generalize ts.toList = tl at h ⊢
        match al, tl, h with
        | [s, x], [t, t'], h =>
          simp only [es_val]
          exact ⟨eApp_ok hT h, fun _ hb => by simp [barOp] at hb⟩
        | [], _, h => exact h.elim
        | [_], _, h => exact h.elim
        | _ :: _ :: _ :: _, _, h => exact h.elim
        | [s, x], [], h => exact h.elim
        | [s, x], [_], h => exact h.elim
        | [s, x], _ :: _ :: _ :: _, h => exact h.elim
      | max =>
        simp only at h ⊢
        generalize args.toList = al at h ⊢
        match al, h with
        | [x, y], h =>
          simp only [es_val]
          have : MaxK maxI (σ.val x) (σ.val y) (Kst K) σ.st := by
            unfold MaxK
            simp only at h
            split at h
            · rename_i k a hx
              split at h
              · rename_i k' b hy
                rw [hx, hy]
                exact kst h
              · exact h.elim
            · exact h.elim
          exact ⟨this, fun _ _ => this⟩
        | [], h => exact h.elim
        | [_], h => exact h.elim
        | _ :: _ :: _ :: _, h => exact h.elim
      | min =>
        simp only at h ⊢
        generalize args.toList = al at h ⊢
        match al, h with
        | [x, y], h =>
          simp only [es_val]
          have : MaxK minI (σ.val x) (σ.val y) (Kst K) σ.st := by
            unfold MaxK
            simp only at h
            split at h
            · rename_i k a hx
              split at h
              · rename_i k' b hy
                rw [hx, hy]
                exact kst h
              · exact h.elim
            · exact h.elim
          exact ⟨this, fun _ _ => this⟩
        | [], h => exact h.elim
        | [_], h => exact h.elim
        | _ :: _ :: _ :: _, h => exact h.elim
      | _ => exact h.elim
  | makeInterface t x =>
    simp only [ho, eStep] at h ⊢
    cases q with
    | true => exact h.elim
    | false => exact ⟨h.out o ho, fun h => by cases h⟩
  | makeMap t r =>
    simp only [ho, eStep] at h ⊢
    cases q with
    | true => exact h.elim
    | false => exact ⟨h.out o ho, fun h => by cases h⟩
  | insert t m k x =>
    simp only [ho, eStep] at h ⊢
    cases q with
    | true => exact h.elim
    | false => exact ⟨h.out o ho, fun h => by cases h⟩
  | mapUpdate t m k x =>
    simp only [ho, eStep] at h ⊢
    cases q with
    | true => exact h.elim
    | false => exact ⟨h.out o ho, fun h => by cases h⟩
  | lookup t m k b =>
    simp only [ho, eStep] at h ⊢
    cases q with
    | true => exact h.elim
    | false => exact ⟨h.out o ho, fun h => by cases h⟩
  | _ => simp only [ho, eStep] at h
end
end Go.Proofs.YtbdogoccjcifnaaDoor
