/- strings.Trim at the controls and the space, by the kit; its likeness to the document's. No conditions. -/
import Derived.Test.YtkkcmobnhiiacaaGreatDoorUrlDoc
set_option linter.unusedSimpArgs false
set_option linter.unusedVariables false
set_option maxRecDepth 100000
namespace Go.Proofs.YtkkcmobnhiiacaaGreatDoor
open Go.RowKit Go.Shelf

def ctl : List UInt8 := [0, 1, 2, 3, 4, 5, 6, 7, 8, 9, 10, 11, 12, 13, 14, 15, 16, 17, 18, 19, 20, 21, 22, 23, 24, 25, 26, 27, 28, 29, 30, 31, 32]
theorem ctl_all : ∀ j : Fin 256, ctl.contains (UInt8.ofNat j.val) = lowC (UInt8.ofNat j.val) := by decide +kernel
theorem ctl_low (c : UInt8) : ctl.contains c = lowC c := by
  have := ctl_all ⟨c.toNat, c.toNat_lt⟩
  simpa using this
theorem trim_ctl (s : List UInt8) : Lib.trimS s ctl = trR lowC (s.dropWhile lowC) := by
  rw [trim_front, show (ctl.contains ·) = lowC from funext ctl_low]
theorem trim_url (s : List UInt8) (hs : s.length ≤ 140737488355328) : Fn1 Tryz.prog 29 [.str s, .str [0, 1, 2, 3, 4, 5, 6, 7, 8, 9, 10, 11, 12, 13, 14, 15, 16, 17, 18, 19, 20, 21, 22, 23, 24, 25, 26, 27, 28, 29, 30, 31, 32]] (fun r => r = .str (trR lowC (s.dropWhile lowC))) := by
  rw [← trim_ctl]
  intro w I vs hl hv hI
  obtain ⟨v0, v1, rfl⟩ : ∃ v0 v1, vs = [v0, v1] := by
    match vs, hl with
    | [a, b], _ => exact ⟨a, b, rfl⟩
  obtain ⟨rfl, hs1⟩ := pr_str_inv (hv 0 v0 _ rfl rfl)
  obtain ⟨rfl, _⟩ := pr_str_inv (hv 1 v1 _ rfl rfl)
  have ht := trimS_len s ctl
  refine fn1_str hI (by omega) ?_
  exact Any.strings_Trim_laid laysTrim (by kernel_rfl) ⟨s.toArray⟩ ⟨#[0, 1, 2, 3, 4, 5, 6, 7, 8, 9, 10, 11, 12, 13, 14, 15, 16, 17, 18, 19, 20, 21, 22, 23, 24, 25, 26, 27, 28, 29, 30, 31, 32]⟩ w (by simp only [ByteArray.size, List.size_toArray]; omega) (by decide) (ascii_of_all (by decide))
end Go.Proofs.YtkkcmobnhiiacaaGreatDoor
