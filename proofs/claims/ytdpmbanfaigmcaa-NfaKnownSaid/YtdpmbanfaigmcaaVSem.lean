/- Runs of operations that the kit's walk does not carry out by itself: sets (arrays of four words) compared, and states of machines. -/
import Derived.Test.YtdpmbanfaigmcaaRows
import Derived.WalkKit
set_option linter.unusedVariables false
set_option linter.unusedSimpArgs false
namespace Go.Proofs.Ytdpmbanfaigmcaa
open Go.RowKit

/-- Are two sets the same? -/
def eq4 (a0 a1 a2 a3 b0 b1 b2 b3 : Int) : Bool := a0 == b0 && a1 == b1 && a2 == b2 && a3 == b3
theorem eq4_true {a0 a1 a2 a3 b0 b1 b2 b3 : Int} (h : a0 = b0 ∧ a1 = b1 ∧ a2 = b2 ∧ a3 = b3) : eq4 a0 a1 a2 a3 b0 b1 b2 b3 = true := by
  obtain ⟨rfl, rfl, rfl, rfl⟩ := h; simp [eq4]
theorem eq4_false {a0 a1 a2 a3 b0 b1 b2 b3 : Int} (h : ¬ (a0 = b0 ∧ a1 = b1 ∧ a2 = b2 ∧ a3 = b3)) : eq4 a0 a1 a2 a3 b0 b1 b2 b3 = false := by
  rw [Bool.eq_false_iff]; intro e; simp [eq4] at e; exact h ⟨e.1.1.1, e.1.1.2, e.1.2, e.2⟩
theorem eq4_iff {a0 a1 a2 a3 b0 b1 b2 b3 : Int} : eq4 a0 a1 a2 a3 b0 b1 b2 b3 = true ↔ (a0 = b0 ∧ a1 = b1 ∧ a2 = b2 ∧ a3 = b3) := by
  simp [eq4, and_assoc]

@[go_sem] theorem run_eq4 (w : World) (d : Nat) (a0 a1 a2 a3 b0 b1 b2 b3 : Int) :
    (Op.equalIn (d + 2) 24 (.agg #[.int .u64 a0, .int .u64 a1, .int .u64 a2, .int .u64 a3]) (.agg #[.int .u64 b0, .int .u64 b1, .int .u64 b2, .int .u64 b3])).run Try.prog w = .ok (eq4 a0 a1 a2 a3 b0 b1 b2 b3) w := by
  rw [Op.equalIn]
  simp only [Sem.run_bind, run_underlying Try.underlying24, Result.andThen_ok]
  simp [go_sem, List.range']
  unfold eq4
  by_cases h0 : a0 = b0 <;> by_cases h1 : a1 = b1 <;> by_cases h2 : a2 = b2 <;> by_cases h3 : a3 = b3 <;> simp [h0, h1, h2, h3]
end Go.Proofs.Ytdpmbanfaigmcaa
