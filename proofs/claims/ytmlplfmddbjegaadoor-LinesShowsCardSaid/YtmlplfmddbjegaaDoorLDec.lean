/-
  canopyref.Dec and hexDigit. Conditions: the number is not below 0, nor above 200000; a digit is below 16.
-/
import Derived.Test.YtmlplfmddbjegaaDoorLStr
import Derived.Deep.RegionWith
import Derived.Deep.RegionHeld3
import Derived.BigRegion
namespace Go.Proofs.YtmlplfmddbjegaaDoor
open Go.RowKit Go.Proofs.YtmlplfmddbjegaaDoorW.PrintWords

def hexB (n : Nat) : UInt8 := if n < 10 then UInt8.ofNat (48 + n) else UInt8.ofNat (87 + n)
set_option maxHeartbeats 1000000 in
set_option maxRecDepth 100000 in
theorem refHex (n : Nat) (hn : n < 16) (w : World) :
    Calls Tryd.prog 26 #[.int .i64 n] w fun e w' => e = .returned (encB (hexB n)) ∧ w = w' := by
  by_cases h : n < 10
  · have e : (hexB n).toNat = 48 + n := by unfold hexB; rw [if_pos h]; simp; omega
    have e2 : encB (hexB n) = .int .u8 (48 + n : Nat) := by unfold encB; rw [e]
    rw [e2]; clear e e2
    go_enter Tryd.func26, Tryd.ntmps26
    go_wp2
    go_ret
    exact ⟨ret_int (by omega), rfl⟩
  · have e : (hexB n).toNat = 87 + n := by unfold hexB; rw [if_neg h]; simp; omega
    have e2 : encB (hexB n) = .int .u8 (87 + n : Nat) := by unfold encB; rw [e]
    rw [e2]; clear e e2
    go_enter Tryd.func26, Tryd.ntmps26
    go_wp2
    go_ret
    exact ⟨ret_int (by omega), rfl⟩

theorem refHexI (m : Int) (h0 : 0 ≤ m) (h1 : m < 16) (w : World) :
    Calls Tryd.prog 26 #[.int .i64 m] w fun e w' => e = .returned (.int .u8 ((hexB m.toNat).toNat : Int)) ∧ w = w' := by
  have h := refHex m.toNat (by omega) w
  rwa [show ((m.toNat : Nat) : Int) = m by omega] at h
/-- The digit of a number below 10. -/
def dg (n : Nat) : UInt8 := UInt8.ofNat (48 + n)
theorem dg_val {n : Nat} (h : n < 10) : ((dg n).toNat : Int) = 48 + n := by unfold dg; simp; omega
theorem decD_small {m : Int} (h0 : 0 ≤ m) (h : m < 10) : Lib.decDigits m.toNat = [dg m.toNat] := by rw [Lib.decDigits, dif_pos (by omega)]; rfl
theorem decD_big {m : Int} (h0 : 0 ≤ m) (h : ¬ m < 10) : Lib.decDigits m.toNat = Lib.decDigits (m / 10).toNat ++ [dg (m % 10).toNat] := by
  rw [Lib.decDigits, dif_neg (by omega)]
  have e1 : (m / 10).toNat = m.toNat / 10 := by omega
  have e2 : (m % 10).toNat = m.toNat % 10 := by omega
  rw [e1, e2]
  rfl
theorem decD_len : ∀ (N u : Nat), u < N → (Lib.decDigits u).length ≤ u + 1
  | 0, _, h => by omega
  | N + 1, u, h => by
    rw [Lib.decDigits]
    split
    · simp
    · rw [List.length_append]
      have := decD_len N (u / 10) (by omega)
      simp
      omega
set_option maxHeartbeats 1000000 in
set_option maxRecDepth 100000 in
theorem refDec : ∀ (N : Nat) (m : Int), 0 ≤ m → m ≤ 9223372036854775807 → m.toNat < N → ∀ w : World,
    Calls Tryd.prog 25 #[.int .i64 m] w fun e w' => e = .returned (.string (str (Lib.decDigits m.toNat))) ∧ Fr w w' := by
  intro N
  induction N with
  | zero => intro m h0 h1 h2; omega
  | succ N ih =>
    intro m h0 h1 h2 w
    by_cases h : m < 10
    · rw [decD_small h0 h]
      have hb : ((dg m.toNat).toNat : Int) = 48 + m := by rw [dg_val (by omega)]; omega
      have kc := one_string (P := Tryd.prog) (src := 32) (dst := 9) (e := 5) (k := w.heap.size) Tryd.underlying32 Tryd.underlying5 Tryd.underlying9 (W := w.alloc (.cells #[.int .u8 (48 + m)] 5)) (dg m.toNat) (by rw [hb]; exact heap_alloc_new _ _)
      clear hb ih
      go_enter Tryd.func25, Tryd.ntmps25
      go_wp2
      go_ret
      exact ⟨rfl, (Fr.refl _).alloc _⟩
    · rw [decD_big h0 h]
      have ih1 := Lib.hid (ih (m / 10) (by omega) (by omega) (by omega))
      clear ih
      go_enter Tryd.func25, Tryd.ntmps25
      go_wp2
      have e1 : IntKind.i64.wrap (m.tdiv 10) = m / 10 := by rw [Int.tdiv_eq_ediv_of_nonneg h0]; exact IntWalk.i64_in _ (by omega)
      have e2 : m.tmod 10 = m % 10 := Int.tmod_eq_emod_of_nonneg h0
      have e3 : IntKind.i64.wrap (48 + m % 10) = 48 + m % 10 := IntWalk.i64_in _ (by omega)
      have e4 : IntKind.u8.wrap (48 + m % 10) = 48 + m % 10 := IntWalk.u8_in _ (by omega)
      have hb : ((dg (m % 10).toNat).toNat : Int) = 48 + m % 10 := by rw [dg_val (by omega)]; omega
      have kc := fun W : World => one_string (P := Tryd.prog) (src := 32) (dst := 9) (e := 5) (k := W.heap.size) Tryd.underlying32 Tryd.underlying5 Tryd.underlying9 (W := W.alloc (.cells #[.int .u8 (48 + m % 10)] 5)) (dg (m % 10).toNat) (by rw [hb]; exact heap_alloc_new _ _)
      have kd := one_string (P := Tryd.prog) (src := 32) (dst := 9) (e := 5) (k := w.heap.size) Tryd.underlying32 Tryd.underlying5 Tryd.underlying9 (W := (w.alloc (.cells #[.int .u8 (48 + m % 10)] 5)).drew) (dg (m % 10).toNat) (by rw [hb]; exact heap_alloc_new w _)
      have HB := Lib.hid hb
      clear hb
      have hsz : (str (Lib.decDigits (m / 10).toNat)).size + (str [dg (m % 10).toNat]).size ≤ 9223372036854775807 := by
        have := decD_len _ (m / 10).toNat (Nat.lt_succ_self _)
        rw [str_size, str_size, List.length_singleton]
        omega
      go_region_with (go_at_call 25; go_must ((with_reducible refine (ih1.out _).mono ?_)); rintro e w' ⟨rfl, hf⟩; try have kc2 := one_string (P := Tryd.prog) (src := 32) (dst := 9) (e := 5) (k := w.heap.size) Tryd.underlying32 Tryd.underlying5 Tryd.underlying9 (W := w') (dg (m % 10).toNat) (by rw [HB.out]; exact hf.block (heap_alloc_new w _)))
      all_goals
        go_wp2
        go_ret
        refine ⟨by rw [← add_str]; rfl, ?_⟩
        first | exact ((Fr.refl w).drew.trans hf).alloc _ | exact (((Fr.refl w).alloc _).drew).trans hf
end Go.Proofs.YtmlplfmddbjegaaDoor
