/- Letters of bytes: what the model's decoding says, and what the document's answer tries. Plain laws. No conditions. -/
import Derived.Test.YtkkcmobnhiiacaaDoorLaw
set_option linter.unusedSimpArgs false
set_option linter.unusedVariables false
set_option maxRecDepth 100000
namespace Go.Proofs.YtkkcmobnhiiacaaDoor
open Go.RowKit

def bt (t : List UInt8) (k : Nat) : Nat := (t.getD k 0).toNat
def ctB (t : List UInt8) (k : Nat) : Bool := decide (k < t.length) && bt t k / 64 == 2
/-- What bytes begin with: the letter and how many bytes it has. -/
def decF (A B C D : Nat) (c1 c2 c3 : Bool) : Nat × Nat :=
  if A < 0x80 then (A, 1)
  else if A / 32 == 6 && c1 then
    (if (A % 32) * 64 + B % 64 ≥ 0x80 then ((A % 32) * 64 + B % 64, 2) else (65533, 1))
  else if A / 16 == 14 && c1 && c2 then
    (if (A % 16) * 4096 + (B % 64) * 64 + C % 64 ≥ 0x800 && Utf8.valid ((A % 16) * 4096 + (B % 64) * 64 + C % 64 : Nat) then ((A % 16) * 4096 + (B % 64) * 64 + C % 64, 3) else (65533, 1))
  else if A / 8 == 30 && c1 && c2 && c3 then
    (if (A % 8) * 262144 + (B % 64) * 4096 + (C % 64) * 64 + D % 64 ≥ 0x10000 && Utf8.valid ((A % 8) * 262144 + (B % 64) * 4096 + (C % 64) * 64 + D % 64 : Nat) then ((A % 8) * 262144 + (B % 64) * 4096 + (C % 64) * 64 + D % 64, 4) else (65533, 1))
  else (65533, 1)
def decL (t : List UInt8) : Nat × Nat := decF (bt t 0) (bt t 1) (bt t 2) (bt t 3) (ctB t 1) (ctB t 2) (ctB t 3)

theorem get_bt (s : List UInt8) (pos k : Nat) : ((⟨s.toArray⟩ : ByteArray).get! (pos + k)).toNat = bt (s.drop pos) k := by
  show (s.toArray[pos + k]!).toNat = _
  unfold bt
  simp [List.getD, List.getElem?_drop]
  rfl
theorem lt_bt (s : List UInt8) (pos k : Nat) : decide (pos + k < (⟨s.toArray⟩ : ByteArray).size) = decide (k < (s.drop pos).length) := by
  have : (⟨s.toArray⟩ : ByteArray).size = s.length := by simp [ByteArray.size]
  rw [this, List.length_drop]
  exact decide_eq_decide.2 (by omega)
theorem dec_eq (s : List UInt8) (pos : Nat) : dec s pos = decL (s.drop pos) := by
  unfold dec Utf8.decode decL decF ctB
  simp only [get_bt, lt_bt, Utf8.runeError]
theorem bt_lt (t : List UInt8) (k : Nat) : bt t k < 256 := by unfold bt; exact (t.getD k 0).toNat_lt
theorem decL_le (t : List UInt8) : (decL t).1 ≤ 2097151 ∧ 1 ≤ (decL t).2 ∧ (decL t).2 ≤ 4 := by
  have h0 := bt_lt t 0
  unfold decL decF
  repeat' split
  all_goals (refine ⟨?_, ?_, ?_⟩ <;> simp only <;> omega)
theorem decL_len {t : List UInt8} (h : t ≠ []) : (decL t).2 ≤ t.length := by
  have hl : 0 < t.length := List.length_pos_iff.2 h
  unfold decL decF ctB
  repeat' split
  all_goals simp_all
  all_goals omega

def runesL (t : List UInt8) : List Nat := if h : t = [] then [] else (decL t).1 :: runesL (t.drop (decL t).2)
termination_by t.length
decreasing_by
  have := (decL_le t).2.1
  have : 0 < t.length := List.length_pos_iff.2 h
  simp only [List.length_drop]; omega
theorem runesL_nil : runesL [] = [] := by rw [runesL]; simp
theorem runesL_step {t : List UInt8} (h : t ≠ []) : runesL t = (decL t).1 :: runesL (t.drop (decL t).2) := by rw [runesL]; simp [h]
theorem runesL_len (n : Nat) : ∀ t : List UInt8, t.length ≤ n → (runesL t).length ≤ t.length := by
  induction n with
  | zero => intro t ht; rw [List.length_eq_zero_iff.1 (Nat.le_zero.1 ht), runesL_nil]; exact Nat.le_refl _
  | succ n ih =>
    intro t ht
    by_cases h : t = []
    · rw [h, runesL_nil]; exact Nat.le_refl _
    · have h1 := (decL_le t).2.1
      have h2 := decL_len h
      have h3 : 0 < t.length := List.length_pos_iff.2 h
      have := ih (t.drop (decL t).2) (by rw [List.length_drop]; omega)
      rw [runesL_step h, List.length_cons]
      rw [List.length_drop] at this
      omega

/-! ### The document's answer -/
def letN (n : Int) : Bool := decide (0 ≤ n) && decide (n ≤ 1114111) && (decide (n < 55296) || decide (57343 < n))
def bytesN (n : Nat) : List UInt8 :=
  if n < 128 then [UInt8.ofNat n]
  else if n < 2048 then [UInt8.ofNat (192 + n / 64), UInt8.ofNat (128 + n % 64)]
  else if n < 65536 then [UInt8.ofNat (224 + n / 4096), UInt8.ofNat (128 + n / 64 % 64), UInt8.ofNat (128 + n % 64)]
  else [UInt8.ofNat (240 + n / 262144), UInt8.ofNat (128 + n / 4096 % 64), UInt8.ofNat (128 + n / 64 % 64), UInt8.ofNat (128 + n % 64)]
def parN (t : List UInt8) (w : Nat) : Nat → Nat
  | 0 => bt t 0 % 2 ^ (7 - w)
  | i + 1 => parN t w i * 64 + bt t (i + 1) % 64
def candN (t : List UInt8) (w : Nat) : Nat := if w ≤ 1 then bt t 0 else parN t w (w - 1)
def testN (t : List UInt8) (w : Nat) : Bool := decide (w ≤ t.length) && (letN (candN t w) && decide (bytesN (candN t w) = t.take w))

theorem u8_eq (x : Nat) (a : UInt8) : UInt8.ofNat x = a ↔ x % 256 = a.toNat := by
  constructor
  · intro h; rw [← h]; simp
  · intro h; apply UInt8.toNat.inj; simpa using h
theorem bytes_1 (c : Nat) (a : UInt8) : bytesN c = [a] ↔ c < 128 ∧ c = a.toNat := by
  unfold bytesN
  split
  · simp only [List.cons.injEq, and_true, u8_eq]; constructor <;> intro h <;> omega
  · split
    · simp; omega
    · split <;> (simp; try omega)
theorem bytes_2 (c : Nat) (a b : UInt8) (h : c < 2048) : bytesN c = [a, b] ↔ 128 ≤ c ∧ 192 + c / 64 = a.toNat ∧ 128 + c % 64 = b.toNat := by
  unfold bytesN
  by_cases h1 : c < 128
  · rw [if_pos h1]; simp; omega
  · rw [if_neg h1, if_pos h]
    simp only [List.cons.injEq, and_true, u8_eq]; constructor <;> intro h <;> omega
theorem bytes_3 (c : Nat) (a b d : UInt8) (h : c < 65536) : bytesN c = [a, b, d] ↔ 2048 ≤ c ∧ 224 + c / 4096 = a.toNat ∧ 128 + c / 64 % 64 = b.toNat ∧ 128 + c % 64 = d.toNat := by
  unfold bytesN
  by_cases h1 : c < 128
  · rw [if_pos h1]; simp; omega
  · by_cases h2 : c < 2048
    · rw [if_neg h1, if_pos h2]; simp; omega
    · rw [if_neg h1, if_neg h2, if_pos h]
      simp only [List.cons.injEq, and_true, u8_eq]; constructor <;> intro h <;> omega
theorem bytes_4 (c : Nat) (a b d e : UInt8) (h : c < 2097152) : bytesN c = [a, b, d, e] ↔ 65536 ≤ c ∧ 240 + c / 262144 = a.toNat ∧ 128 + c / 4096 % 64 = b.toNat ∧ 128 + c / 64 % 64 = d.toNat ∧ 128 + c % 64 = e.toNat := by
  unfold bytesN
  split
  · simp; omega
  · split
    · simp; omega
    · split
      · simp; omega
      · simp only [List.cons.injEq, and_true, u8_eq]; constructor <;> intro h <;> omega
theorem valid_let (c : Nat) : Utf8.valid (c : Int) = letN c := by
  unfold Utf8.valid letN
  rw [Bool.eq_iff_iff]; simp; omega

theorem test_1 (a : UInt8) (r : List UInt8) : testN (a :: r) 1 = decide (a.toNat < 128) := by
  rw [Bool.eq_iff_iff]
  simp only [testN, candN, bt, List.getD_cons_zero, List.take_succ_cons, List.take_zero, List.length_cons, Nat.le_refl, if_true, bytes_1, Bool.and_eq_true, decide_eq_true_eq, letN]
  simp; omega
theorem test_2 (a b : UInt8) (r : List UInt8) : testN (a :: b :: r) 2 = (decide (a.toNat / 32 = 6) && decide (b.toNat / 64 = 2) && decide (128 ≤ (a.toNat % 32) * 64 + b.toNat % 64)) := by
  have h1 := a.toNat_lt
  have h2 := b.toNat_lt
  rw [Bool.eq_iff_iff]
  simp only [testN, candN, parN, bt, List.getD_cons_zero, List.getD_cons_succ, List.take_succ_cons, List.take_zero, List.length_cons, Nat.reduceLeDiff, if_false, Nat.reduceSub, Nat.reducePow, Nat.zero_add]
  simp only [Bool.and_eq_true, decide_eq_true_eq]
  rw [bytes_2 _ _ _ (by omega)]
  simp [letN]; omega
theorem test_3 (a b c : UInt8) (r : List UInt8) : testN (a :: b :: c :: r) 3 = (decide (a.toNat / 16 = 14) && decide (b.toNat / 64 = 2) && decide (c.toNat / 64 = 2) && decide (2048 ≤ (a.toNat % 16) * 4096 + (b.toNat % 64) * 64 + c.toNat % 64) && letN ((a.toNat % 16) * 4096 + (b.toNat % 64) * 64 + c.toNat % 64 : Nat)) := by
  have h1 := a.toNat_lt
  have h2 := b.toNat_lt
  have h3 := c.toNat_lt
  have e : (a.toNat % 16 * 64 + b.toNat % 64) * 64 + c.toNat % 64 = (a.toNat % 16) * 4096 + (b.toNat % 64) * 64 + c.toNat % 64 := by omega
  rw [Bool.eq_iff_iff]
  simp only [testN, candN, parN, bt, List.getD_cons_zero, List.getD_cons_succ, List.take_succ_cons, List.take_zero, List.length_cons, Nat.reduceLeDiff, if_false, Nat.reduceSub, Nat.reducePow, Nat.zero_add, Nat.reduceAdd, e]
  simp only [Bool.and_eq_true, decide_eq_true_eq]
  rw [bytes_3 _ _ _ _ (by omega)]
  generalize letN _ = q
  cases q <;> (simp; try omega)
theorem test_4 (a b c d : UInt8) (r : List UInt8) : testN (a :: b :: c :: d :: r) 4 = (decide (a.toNat / 8 = 30) && decide (b.toNat / 64 = 2) && decide (c.toNat / 64 = 2) && decide (d.toNat / 64 = 2) && decide (65536 ≤ (a.toNat % 8) * 262144 + (b.toNat % 64) * 4096 + (c.toNat % 64) * 64 + d.toNat % 64) && letN ((a.toNat % 8) * 262144 + (b.toNat % 64) * 4096 + (c.toNat % 64) * 64 + d.toNat % 64 : Nat)) := by
  have h1 := a.toNat_lt
  have h2 := b.toNat_lt
  have h3 := c.toNat_lt
  have h4 := d.toNat_lt
  have e : ((a.toNat % 8 * 64 + b.toNat % 64) * 64 + c.toNat % 64) * 64 + d.toNat % 64 = (a.toNat % 8) * 262144 + (b.toNat % 64) * 4096 + (c.toNat % 64) * 64 + d.toNat % 64 := by omega
  rw [Bool.eq_iff_iff]
  simp only [testN, candN, parN, bt, List.getD_cons_zero, List.getD_cons_succ, List.take_succ_cons, List.take_zero, List.length_cons, Nat.reduceLeDiff, if_false, Nat.reduceSub, Nat.reducePow, Nat.zero_add, Nat.reduceAdd, e]
  simp only [Bool.and_eq_true, decide_eq_true_eq]
  rw [bytes_4 _ _ _ _ _ (by omega)]
  generalize letN _ = q
  cases q <;> (simp; try omega)
theorem test_short {t : List UInt8} {w : Nat} (h : t.length < w) : testN t w = false := by
  unfold testN; rw [decide_eq_false (by omega)]; rfl

theorem bt_0 (a : UInt8) (r : List UInt8) : bt (a :: r) 0 = a.toNat := rfl
theorem bt_s (a : UInt8) (r : List UInt8) (k : Nat) : bt (a :: r) (k + 1) = bt r k := rfl
theorem ctB_1 (a b : UInt8) (r : List UInt8) : ctB (a :: b :: r) 1 = decide (b.toNat / 64 = 2) := by
  unfold ctB; rw [decide_eq_true (by simp), Bool.eq_iff_iff]; simp [bt]
theorem ctB_2 (a b c : UInt8) (r : List UInt8) : ctB (a :: b :: c :: r) 2 = decide (c.toNat / 64 = 2) := by
  unfold ctB; rw [decide_eq_true (by simp), Bool.eq_iff_iff]; simp [bt]
theorem ctB_3 (a b c d : UInt8) (r : List UInt8) : ctB (a :: b :: c :: d :: r) 3 = decide (d.toNat / 64 = 2) := by
  unfold ctB; rw [decide_eq_true (by simp), Bool.eq_iff_iff]; simp [bt]
theorem ctB_no {t : List UInt8} {k : Nat} (h : t.length ≤ k) : ctB t k = false := by
  unfold ctB; rw [decide_eq_false (by omega)]; rfl
theorem bt_1 (a b : UInt8) (r : List UInt8) : bt (a :: b :: r) 1 = b.toNat := rfl
theorem bt_2 (a b c : UInt8) (r : List UInt8) : bt (a :: b :: c :: r) 2 = c.toNat := rfl
theorem bt_3 (a b c d : UInt8) (r : List UInt8) : bt (a :: b :: c :: d :: r) 3 = d.toNat := rfl

section
variable {A B C D : Nat} {c1 c2 c3 : Bool}
theorem decF_1 (h : A < 128) : decF A B C D c1 c2 c3 = (A, 1) := if_pos h
theorem decF_2 (h6 : A / 32 = 6) (k1 : c1 = true) (hc : 128 ≤ (A % 32) * 64 + B % 64) : decF A B C D c1 c2 c3 = ((A % 32) * 64 + B % 64, 2) := by
  unfold decF
  rw [if_neg (by omega), if_pos (by rw [h6, k1]; rfl), if_pos hc]
theorem decF_3 (h6 : A / 16 = 14) (k1 : c1 = true) (k2 : c2 = true) (hc : 2048 ≤ (A % 16) * 4096 + (B % 64) * 64 + C % 64) (hv : letN ((A % 16) * 4096 + (B % 64) * 64 + C % 64 : Nat) = true) : decF A B C D c1 c2 c3 = ((A % 16) * 4096 + (B % 64) * 64 + C % 64, 3) := by
  unfold decF
  have h7 : (A / 32 == 6) = false := by simp; omega
  rw [if_neg (by omega), if_neg (by rw [h7]; simp), if_pos (by rw [h6, k1, k2]; rfl), if_pos (by rw [valid_let, hv, Bool.and_true]; exact decide_eq_true hc)]
theorem decF_4 (h6 : A / 8 = 30) (k1 : c1 = true) (k2 : c2 = true) (k3 : c3 = true) (hc : 65536 ≤ (A % 8) * 262144 + (B % 64) * 4096 + (C % 64) * 64 + D % 64) (hv : letN ((A % 8) * 262144 + (B % 64) * 4096 + (C % 64) * 64 + D % 64 : Nat) = true) :
    decF A B C D c1 c2 c3 = ((A % 8) * 262144 + (B % 64) * 4096 + (C % 64) * 64 + D % 64, 4) := by
  unfold decF
  have h7 : (A / 32 == 6) = false := by simp; omega
  have h8 : (A / 16 == 14) = false := by simp; omega
  rw [if_neg (by omega), if_neg (by rw [h7]; simp), if_neg (by rw [h8]; simp), if_pos (by rw [h6, k1, k2, k3]; rfl), if_pos (by rw [valid_let, hv, Bool.and_true]; exact decide_eq_true hc)]
theorem decF_0 (h1 : ¬ A < 128) (h2 : A / 32 = 6 → c1 = true → 128 ≤ (A % 32) * 64 + B % 64 → False)
    (h3 : A / 16 = 14 → c1 = true → c2 = true → 2048 ≤ (A % 16) * 4096 + (B % 64) * 64 + C % 64 → letN ((A % 16) * 4096 + (B % 64) * 64 + C % 64 : Nat) = true → False)
    (h4 : A / 8 = 30 → c1 = true → c2 = true → c3 = true → 65536 ≤ (A % 8) * 262144 + (B % 64) * 4096 + (C % 64) * 64 + D % 64 → letN ((A % 8) * 262144 + (B % 64) * 4096 + (C % 64) * 64 + D % 64 : Nat) = true → False) :
    decF A B C D c1 c2 c3 = (65533, 1) := by
  unfold decF
  rw [if_neg h1]
  simp only [valid_let]
  split
  · rename_i hh
    simp only [Bool.and_eq_true, beq_iff_eq] at hh
    rw [if_neg (fun hc => h2 hh.1 hh.2 hc)]
  · split
    · rename_i hh
      simp only [Bool.and_eq_true, beq_iff_eq] at hh
      rw [if_neg]
      intro hc
      simp only [Bool.and_eq_true, decide_eq_true_eq] at hc
      exact h3 hh.1.1 hh.1.2 hh.2 hc.1 hc.2
    · split
      · rename_i hh
        simp only [Bool.and_eq_true, beq_iff_eq] at hh
        rw [if_neg]
        intro hc
        simp only [Bool.and_eq_true, decide_eq_true_eq] at hc
        exact h4 hh.1.1.1 hh.1.1.2 hh.1.2 hh.2 hc.1 hc.2
      · rfl
end

theorem cand_1 (a : UInt8) (r : List UInt8) : candN (a :: r) 1 = a.toNat := rfl
theorem cand_2 (a b : UInt8) (r : List UInt8) : candN (a :: b :: r) 2 = (a.toNat % 32) * 64 + b.toNat % 64 := rfl
theorem cand_3 (a b c : UInt8) (r : List UInt8) : candN (a :: b :: c :: r) 3 = (a.toNat % 16) * 4096 + (b.toNat % 64) * 64 + c.toNat % 64 := by
  show (a.toNat % 16 * 64 + b.toNat % 64) * 64 + c.toNat % 64 = _; omega
theorem cand_4 (a b c d : UInt8) (r : List UInt8) : candN (a :: b :: c :: d :: r) 4 = (a.toNat % 8) * 262144 + (b.toNat % 64) * 4096 + (c.toNat % 64) * 64 + d.toNat % 64 := by
  show ((a.toNat % 8 * 64 + b.toNat % 64) * 64 + c.toNat % 64) * 64 + d.toNat % 64 = _; omega
theorem decL_hit {t : List UInt8} {w : Nat} (h1 : 1 ≤ w) (h4 : w ≤ 4) (h : testN t w = true) : decL t = (candN t w, w) := by
  have hl : w ≤ t.length := by
    unfold testN at h; simp only [Bool.and_eq_true, decide_eq_true_eq] at h; exact h.1
  match w, h1, h4 with
  | 1, _, _ =>
    match t, hl with
    | a :: r, _ =>
      rw [test_1] at h; simp only [decide_eq_true_eq] at h
      exact decF_1 h
  | 2, _, _ =>
    match t, hl with
    | a :: b :: r, _ =>
      rw [test_2] at h; simp only [Bool.and_eq_true, decide_eq_true_eq] at h
      obtain ⟨⟨h6, hb⟩, hc⟩ := h
      rw [cand_2]
      exact decF_2 h6 (by rw [ctB_1]; exact decide_eq_true hb) hc
  | 3, _, _ =>
    match t, hl with
    | a :: b :: c :: r, _ =>
      rw [test_3] at h; simp only [Bool.and_eq_true, decide_eq_true_eq] at h
      obtain ⟨⟨⟨⟨h6, hb⟩, hb2⟩, hc⟩, hv⟩ := h
      rw [cand_3]
      exact decF_3 h6 (by rw [ctB_1]; exact decide_eq_true hb) (by rw [ctB_2]; exact decide_eq_true hb2) hc hv
  | 4, _, _ =>
    match t, hl with
    | a :: b :: c :: d :: r, _ =>
      rw [test_4] at h; simp only [Bool.and_eq_true, decide_eq_true_eq] at h
      obtain ⟨⟨⟨⟨⟨h6, hb⟩, hb2⟩, hb3⟩, hc⟩, hv⟩ := h
      rw [cand_4]
      exact decF_4 h6 (by rw [ctB_1]; exact decide_eq_true hb) (by rw [ctB_2]; exact decide_eq_true hb2) (by rw [ctB_3]; exact decide_eq_true hb3) hc hv
theorem no_ct {t : List UInt8} {k : Nat} (h : t.length ≤ k) (h' : ctB t k = true) : False := by rw [ctB_no h] at h'; cases h'
theorem decL_miss {t : List UInt8} (hne : t ≠ []) (h : ∀ w, 1 ≤ w → w ≤ 4 → testN t w = false) : decL t = (65533, 1) := by
  have t1 := h 1 (by omega) (by omega)
  have t2 := h 2 (by omega) (by omega)
  have t3 := h 3 (by omega) (by omega)
  have t4 := h 4 (by omega) (by omega)
  have no : ∀ {b : Bool}, b = false → b = true → False := fun h h' => by rw [h] at h'; cases h'
  match t, hne with
  | a :: [], _ =>
    rw [test_1, decide_eq_false_iff_not] at t1
    exact decF_0 t1 (fun _ k _ => no_ct (by simp) k) (fun _ k _ _ _ => no_ct (by simp) k) (fun _ k _ _ _ _ => no_ct (by simp) k)
  | a :: b :: [], _ =>
    rw [test_1, decide_eq_false_iff_not] at t1
    rw [test_2] at t2
    refine decF_0 t1 (fun h6 k hc => ?_) (fun _ _ k _ _ => no_ct (by simp) k) (fun _ _ k _ _ _ => no_ct (by simp) k)
    rw [ctB_1] at k
    refine no t2 ?_
    simp only [Bool.and_eq_true]; exact ⟨⟨decide_eq_true h6, k⟩, decide_eq_true hc⟩
  | a :: b :: c :: [], _ =>
    rw [test_1, decide_eq_false_iff_not] at t1
    rw [test_2] at t2
    rw [test_3] at t3
    refine decF_0 t1 (fun h6 k hc => ?_) (fun h6 k k2 hc hv => ?_) (fun _ _ _ k _ _ => no_ct (by simp) k)
    · rw [ctB_1] at k
      refine no t2 ?_
      simp only [Bool.and_eq_true]; exact ⟨⟨decide_eq_true h6, k⟩, decide_eq_true hc⟩
    · rw [ctB_1] at k
      rw [ctB_2] at k2
      refine no t3 ?_
      simp only [Bool.and_eq_true]; exact ⟨⟨⟨⟨decide_eq_true h6, k⟩, k2⟩, decide_eq_true hc⟩, hv⟩
  | a :: b :: c :: d :: r, _ =>
    rw [test_1, decide_eq_false_iff_not] at t1
    rw [test_2] at t2
    rw [test_3] at t3
    rw [test_4] at t4
    refine decF_0 t1 (fun h6 k hc => ?_) (fun h6 k k2 hc hv => ?_) (fun h6 k k2 k3 hc hv => ?_)
    · rw [ctB_1] at k
      refine no t2 ?_
      simp only [Bool.and_eq_true]; exact ⟨⟨decide_eq_true h6, k⟩, decide_eq_true hc⟩
    · rw [ctB_1] at k
      rw [ctB_2] at k2
      refine no t3 ?_
      simp only [Bool.and_eq_true]; exact ⟨⟨⟨⟨decide_eq_true h6, k⟩, k2⟩, decide_eq_true hc⟩, hv⟩
    · rw [ctB_1] at k
      rw [ctB_2] at k2
      rw [ctB_3] at k3
      refine no t4 ?_
      simp only [Bool.and_eq_true]; exact ⟨⟨⟨⟨⟨decide_eq_true h6, k⟩, k2⟩, k3⟩, decide_eq_true hc⟩, hv⟩
theorem candN_lt (t : List UInt8) {w : Nat} (h1 : 1 ≤ w) (h4 : w ≤ 4) : candN t w < 2097152 := by
  have h0 := bt_lt t 0
  match w, h1, h4 with
  | 1, _, _ => simp [candN]; omega
  | 2, _, _ => simp only [candN, parN, Nat.reduceLeDiff, if_false, Nat.reduceSub, Nat.reducePow]; omega
  | 3, _, _ => simp only [candN, parN, Nat.reduceLeDiff, if_false, Nat.reduceSub, Nat.reducePow]; omega
  | 4, _, _ => simp only [candN, parN, Nat.reduceLeDiff, if_false, Nat.reduceSub, Nat.reducePow]; omega
theorem parN_lt (t : List UInt8) {w i : Nat} (h1 : 2 ≤ w) (h4 : w ≤ 4) (hi : i < w) : parN t w i < 2097152 := by
  have h0 := bt_lt t 0
  match w, h1, h4 with
  | 2, _, _ => match i, hi with
    | 0, _ => simp only [parN]; omega
    | 1, _ => simp only [parN]; omega
  | 3, _, _ => match i, hi with
    | 0, _ => simp only [parN]; omega
    | 1, _ => simp only [parN]; omega
    | 2, _ => simp only [parN]; omega
  | 4, _, _ => match i, hi with
    | 0, _ => simp only [parN]; omega
    | 1, _ => simp only [parN]; omega
    | 2, _ => simp only [parN]; omega
    | 3, _ => simp only [parN]; omega
end Go.Proofs.YtkkcmobnhiiacaaDoor
