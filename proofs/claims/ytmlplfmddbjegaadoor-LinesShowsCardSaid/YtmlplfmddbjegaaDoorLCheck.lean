/-
  lines.Check and canopyref.ActFault: both answer 'actErr'. No condition.
-/
import Derived.Test.YtmlplfmddbjegaaDoorLAct
namespace Go.Proofs.YtmlplfmddbjegaaDoor
open Go.RowKit Go.Proofs.YtmlplfmddbjegaaDoorW.PrintWords

/-- P10.1 over an act's numbers and the length of its data. -/
def actErrN (k s p : Int) (n : Nat) : Int :=
  if k < 1 ∨ 4 < k then 5
  else if (k = 1 ∧ (s < 0 ∨ 8 ≤ s)) ∨ (k = 3 ∧ (p < 0 ∨ 200000 < p)) then 2
  else if 4000 < n then 1
  else if (k ≠ 1 ∧ (s ≠ 0 ∨ 0 < n)) ∨ (k ≠ 3 ∧ p ≠ 0) then 4
  else 0
def actErr (a : Ac) : Int := actErrN a.kind a.session a.keep a.data.length

set_option maxHeartbeats 4000000 in
set_option maxRecDepth 100000 in
theorem linesCheckN (k s p : Int) (A : Option Addr) (n c : Nat) (hn : n ≤ 9223372036854775807) (w : World) :
    Calls Tryd.prog 12 #[.agg #[.int .i64 k, .int .i64 s, .int .i64 p, .slice A n c]] w fun e w' => e = .returned (.int .i64 (actErrN k s p n)) ∧ Fr w w' := by
  go_enter Tryd.func12, Tryd.ntmps12
  go_wp2
  all_goals
    go_ret
    refine ⟨ret_int ?_, (Fr.refl _).alloc _⟩
    go_light
    try simp only [bne_iff_ne, ne_eq, bne_eq_false_iff_eq] at *
    unfold actErrN
    (repeat' split) <;> omega
set_option maxHeartbeats 4000000 in
set_option maxRecDepth 100000 in
theorem refIn (n low high : Int) (w : World) :
    Calls Tryd.prog 24 #[.int .i64 n, .int .i64 low, .int .i64 high] w fun e w' => e = .returned (.bool (decide (low ≤ n ∧ n ≤ high))) ∧ w = w' := by
  by_cases h1 : low ≤ n
  · have H : decide (low ≤ n ∧ n ≤ high) = decide (n ≤ high) := by simp [h1]
    rw [H]
    clear H
    by_cases h2 : n ≤ high
    · go_enter Tryd.func24, Tryd.ntmps24
      go_wp2
      go_ret
      exact ⟨ret_bool (by simp [h2]), rfl⟩
    · go_enter Tryd.func24, Tryd.ntmps24
      go_wp2
      go_ret
      exact ⟨ret_bool (by simp [h2]), rfl⟩
  · have H : decide (low ≤ n ∧ n ≤ high) = false := by simp [h1]
    rw [H]
    clear H
    go_enter Tryd.func24, Tryd.ntmps24
    go_wp2
    go_ret
    exact ⟨rfl, rfl⟩

set_option maxHeartbeats 4000000 in
set_option maxRecDepth 100000 in
theorem actFaultN (k s p : Int) (A : Option Addr) (n c : Nat) (hn : n ≤ 9223372036854775807) (w : World) :
    Calls Tryd.prog 16 #[.agg #[.int .i64 k, .int .i64 s, .int .i64 p, .slice A n c]] w fun e w' => e = .returned (.int .i64 (actErrN k s p n)) ∧ Fr w w' := by
  go_enter Tryd.func16, Tryd.ntmps16
  go_wp2_with (go_at_call 24; refine (refIn _ _ _ _).mono ?_; rintro e w' ⟨rfl, rfl⟩)
  all_goals
    go_ret
    refine ⟨ret_int ?_, (Fr.refl _).alloc _⟩
    go_light
    try simp only [Bool.not_eq_true', Bool.not_eq_false', Bool.not_eq_eq_eq_not, Bool.not_true, Bool.not_false, bne_iff_ne, ne_eq, bne_eq_false_iff_eq, decide_eq_true_eq, decide_eq_false_iff_not, beq_iff_eq, beq_eq_false_iff_ne] at *
    unfold actErrN
    (repeat' split) <;> omega
end Go.Proofs.YtmlplfmddbjegaaDoor
