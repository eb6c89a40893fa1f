/- Numbers that come in. No conditions. -/
import Derived.Test.YtjoocolnbmpkkaaR7QCodeM
import Derived.Test.YtjoocolnbmpkkaaR7QPk1
set_option linter.unusedVariables false
set_option linter.unusedSimpArgs false
namespace Go.Cd
open Go Go.Fw
theorem has_picks {x : D} (h : Sh.has (.sl (.i .u8)) x) : ∃ nl l, x = .sl nl l ∧ l.length ≤ maxLen ∧ ∀ y ∈ l, ∃ v, y = .int .u8 v ∧ 0 ≤ v ∧ v < 256 := by
  obtain ⟨nl, l, rfl, h1, h2, h3⟩ := has_sl h
  refine ⟨nl, l, rfl, h2, fun y hy => ?_⟩
  obtain ⟨v, rfl, k⟩ := has_int (h3 y hy)
  exact ⟨v, rfl, wf_u8 k⟩
theorem has_bytes {x : D} (h : Sh.has (.sl (.i .u8)) x) : ∃ nl b, x = .sl nl (b.map u8d) ∧ bytesOk b := by
  obtain ⟨nl, l, rfl, h1, h2, h3⟩ := has_sl h
  obtain ⟨b, rfl, hb⟩ := all_typed (f := u8d) (p := fun v => 0 ≤ v ∧ v < 256) (fun y hy => by
    obtain ⟨v, rfl, k⟩ := has_int hy
    exact ⟨v, rfl, wf_u8 k⟩) l h3
  exact ⟨nl, b, rfl, hb⟩
end Go.Cd
