/-
  The walk of the law LinesShows. Conditions: what the row's own reach gives (sizes), the tables read as they are laid.
-/
import Derived.Test.YtmlplfmddbjegaaDoorLShow
namespace Go.Proofs.YtmlplfmddbjegaaDoor
open Go.RowKit Go.Proofs.YtmlplfmddbjegaaDoorW.PrintWords

set_option maxHeartbeats 2000000 in
set_option maxRecDepth 100000 in
theorem law_shows (A : Option Addr) (c : Nat) (l : List Ac) (w : World) (H : kAc.C w A l.length l) (hl : l.length * 48 ≤ 140737488355328) (hd : ∀ a, a ∈ l → a.data.length ≤ 140737488355328) (he : Env w) :
    Calls Tryd.prog 3 #[.slice A l.length c] w fun e w' => e = .returned (.bool true) ∧ Fr w w' := by
  rcases hr : showRes l with ⟨S, i, er⟩
  have HR := Lib.hid hr
  clear hr
  have HD := Lib.hid hd
  clear hd
  go_enter Tryd.func3, Tryd.ntmps3
  go_wp2_with fail
  refine (acts _ _ _ _ H hl HD.out).mono ?_
  rintro e w1 ⟨v, rfl, hv, hf1⟩
  obtain ⟨A1, c1, rfl, _, HC⟩ := Kd.R_reads hv
  go_wp2_with fail
  refine (linesShow _ _ _ _ HC (he.fr hf1)).mono ?_
  rintro e w2 ⟨rfl, hf2⟩
  rw [HR.out]
  unfold showV
  go_wp2_with fail
  refine (refShown _ _ _ _ (C_fr H (hf1.trans hf2))).mono ?_
  rintro e w3 ⟨rfl, hf3⟩
  rw [HR.out]
  unfold showV
  go_wp2_with fail
  refine (sameActs_same _ _ _ _ _ _ (C_fr HC (hf2.trans hf3)) (C_fr H ((hf1.trans hf2).trans hf3))).mono ?_
  rintro e w4 ⟨rfl, hf4⟩
  go_wp2
  go_ret
  exact ⟨rfl, ((hf1.trans hf2).trans hf3).trans hf4⟩
end Go.Proofs.YtmlplfmddbjegaaDoor
