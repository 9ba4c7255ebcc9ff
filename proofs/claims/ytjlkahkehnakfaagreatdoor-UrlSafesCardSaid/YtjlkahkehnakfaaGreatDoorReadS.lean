/- Strings as they are read, within the reach. No conditions. -/
import Derived.Test.YtjlkahkehnakfaaGreatDoorReadW
set_option linter.unusedSimpArgs false
set_option linter.unusedVariables false
set_option maxRecDepth 100000
namespace Go.Proofs.YtjlkahkehnakfaaGreatDoor
open Go.RowKit Go.WideShapes

theorem reads_str_s {P : Program} {t : TypeId} (ht : P.underlying t = some .string) (n : Nat) : ReadsW P t V.str (fun s => s.length ≤ 140737488351232) (fun s => s.length + 1) n := by
  cases n with
  | zero => exact ReadsW.zero
  | succ n =>
    intro H enc w cs d ps h hps hW
    have hc : ∃ s : ByteArray, cs = [.string s] ∧ d = .lit (.string s.data.toList) ∧ s.size ≤ maxLen := by
      cases cs with
      | nil => simp [DataW.trod, ht] at h
      | cons v r => cases r with
        | nil => cases v <;> simp [DataW.trod, ht] at h <;> (obtain ⟨hw, rfl, _⟩ := h; exact ⟨_, rfl, rfl, hw⟩)
        | cons v' r => cases v <;> simp [DataW.trod, ht] at h
    obtain ⟨s, rfl, rfl, hs⟩ := hc
    have hr : s.data.toList.length ≤ reachBytes := hW _ (by simp [DataW.weights])
    exact ⟨s.data.toList, ⟨rfl, fun u hu => by simp at hu; subst hu; rfl, fun j u c hu hc => by
      cases j with
      | zero => simp [V.cells] at hu hc; subst hu; subst hc; exact .str s hs
      | succ j => simp at hu⟩, hr, by simp [Rows.uptoBulk]⟩
end Go.Proofs.YtjlkahkehnakfaaGreatDoor
