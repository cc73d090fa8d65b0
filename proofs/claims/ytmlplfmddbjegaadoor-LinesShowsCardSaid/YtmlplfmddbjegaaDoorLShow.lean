/-
  lines.Show answers 'showRes', as canopyref.ActsShown does. Condition: the tables read as they are laid.
-/
import Derived.Test.YtmlplfmddbjegaaDoorLShown
import Derived.Test.YtmlplfmddbjegaaDoorLLin3
namespace Go.Proofs.YtmlplfmddbjegaaDoor
open Go.RowKit Go.Proofs.YtmlplfmddbjegaaDoorW.PrintWords

set_option maxHeartbeats 1000000 in
set_option maxRecDepth 100000 in
theorem linesShow (A : Option Addr) (c : Nat) (l : List Ac) (w : World) (H : kAc.C w A l.length l) (he : Env w) :
    Calls Tryd.prog 6 #[.slice A l.length c] w fun e w' => e = .returned (showV (showRes l)) ∧ Fr w w' := by
  have hn : l.length ≤ 9223372036854775807 := H.2.1
  by_cases hbig : 100000 < l.length
  · have HE := Lib.hid (show showRes l = ([], 0, 1) by unfold showRes; rw [if_pos hbig])
    go_enter Tryd.func6, Tryd.ntmps6
    go_wp2
    go_ret3
    rw [HE.out]
    exact ⟨rfl, Fr.refl _⟩
  · have HE := Lib.hid (show showRes l = showFrom 0 [] l by unfold showRes; rw [if_neg hbig])
    go_enter Tryd.func6, Tryd.ntmps6
    go_wp2
    go_loopw [14] (fun i wr => ∃ (k : Nat) (pre : Bs), k ≤ l.length ∧ i = .int .i64 k ∧ Bd w.heap.size pre wr ∧ Fr w wr ∧ SRel l k pre) (fun i _ => l.length - (intOf i).toNat)
    case atStart => exact ⟨0, [], Nat.zero_le _, rfl, by simpa [Bd, Lib.byteCells] using Lib.fresh_isBuilder 38 5 w, (Fr.refl _).alloc _, SRel.zero l⟩
    case round =>
      obtain ⟨k, pre, hk, rfl, hB, hf, hs⟩ := hrel
      by_cases hlt : k < l.length
      · obtain ⟨ad, B, cb, rfl, e0, e1, e2, e3, HB⟩ := ac_at (C_fr H hf) hlt
        have hpl := hs.2
        by_cases hbad : actErr l[k] = 0
        · have hnx := hs.next hlt hbad
          have hll := lineB_len hbad
          have HBAD := Lib.hid hbad
          clear hbad
          go_wp2_with fail
          refine (linesCheckN _ _ _ _ _ _ HB.2.1 _).mono ?_
          rintro e w1 ⟨rfl, hf1⟩
          rw [show actErrN l[k].kind l[k].session l[k].keep l[k].data.length = 0 from HBAD.out]
          have hbx := box_block hf1
          have g0 := blk_cell hbx 0
          have g1 := blk_cell hbx 1
          have g2 := blk_cell hbx 2
          have g3 := blk_cell hbx 3
          simp at g0 g1 g2 g3
          have hf01 : Fr wr w1 := ((Fr.refl wr).alloc _).trans hf1
          clear e0 e1 e2 e3 hbx
          go_wp2_with fail
          refine (linesLine l[k] _ _ _ (C_fr HB hf01) HBAD.out (he.fr (hf.trans hf01))).mono ?_
          rintro e w2 ⟨rfl, hf2⟩
          clear g0 g1 g2 g3
          have hf02 := hf01.trans hf2
          go_wp2_with fail
          refine (putS w.heap.size _ _ _ (Bd_fr hB hf02) (by rw [str_size, List.length_append]; simp only [List.length_singleton]; omega)).mono ?_
          rintro e w3 ⟨rfl, hB3, hb3⟩
          rw [str_list, ← List.append_assoc] at hB3
          go_wp2_with fail
          go_roundw
          case rel => exact ⟨k + 1, _, hlt, rfl, hB3, ⟨(hf.trans hf02).out.trans hb3⟩, hnx⟩
          case measure => simp [intOf]; omega
        · have hbd := Lib.hid (hs.bad hlt hbad)
          have hne : (actErr l[k] != 0) = true := by simp [hbad]
          go_wp2_with fail
          refine (linesCheckN _ _ _ _ _ _ HB.2.1 _).mono ?_
          rintro e w1 ⟨rfl, hf1⟩
          rw [show actErrN l[k].kind l[k].session l[k].keep l[k].data.length = actErr l[k] from rfl]
          go_wp2
          go_ret3
          rw [HE.out, hbd.out]
          exact ⟨rfl, hf.trans (((Fr.refl wr).alloc _).trans hf1)⟩
      · have hdn := Lib.hid (hs.done (by omega))
        go_wp2_with fail
        refine (endS w.heap.size _ _ hB).mono ?_
        rintro e w1 ⟨rfl, hb1⟩
        go_wp2
        go_ret3
        rw [HE.out, hdn.out]
        exact ⟨rfl, ⟨hf.out.trans hb1⟩⟩

/-! ### the law's own looks at bytes and acts -/
set_option maxHeartbeats 1000000 in
set_option maxRecDepth 100000 in
theorem sameBytes_same (A A' : Option Addr) (c c' : Nat) (l : Bs) (w : World) (H : kU8.C w A l.length l) (H' : kU8.C w A' l.length l) :
    Calls Tryd.prog 18 #[.slice A l.length c, .slice A' l.length c'] w fun e w' => e = .returned (.bool true) ∧ w = w' := by
  have kc := C_string (P := Tryd.prog) (c := c) Tryd.underlying32 Tryd.underlying5 Tryd.underlying9 H
  have kd := C_string (P := Tryd.prog) (c := c') Tryd.underlying32 Tryd.underlying5 Tryd.underlying9 H'
  go_enter Tryd.func18, Tryd.ntmps18
  go_wp2
  go_ret
  exact ⟨rfl, rfl⟩
theorem drewN_fr {w w' : World} {n : Nat} (h : w' = w.drewN n) : Fr w w' := by subst h; exact (Fr.refl _).drewN n
set_option maxHeartbeats 2000000 in
set_option maxRecDepth 100000 in
theorem sameActs_same (A A' : Option Addr) (c c' : Nat) (l : List Ac) (w : World) (H : kAc.C w A l.length l) (H' : kAc.C w A' l.length l) :
    Calls Tryd.prog 8 #[.slice A l.length c, .slice A' l.length c'] w fun e w' => e = .returned (.bool true) ∧ Fr w w' := by
  have hn : l.length ≤ 9223372036854775807 := H.2.1
  go_enter Tryd.func8, Tryd.ntmps8
  go_wp2
  go_loopw [5] (fun i wr => ∃ k : Nat, k ≤ l.length ∧ i = .int .i64 k ∧ Fr w wr) (fun i _ => l.length - (intOf i).toNat)
  case atStart => exact ⟨0, Nat.zero_le _, rfl, Fr.refl _⟩
  case round =>
    obtain ⟨k, hk, rfl, hf⟩ := hrel
    by_cases hlt : k < l.length
    · obtain ⟨ad, B, cb, rfl, e0, e1, e2, e3, HB⟩ := ac_at (C_fr H hf) hlt
      obtain ⟨ad', B', cb', rfl, e0', e1', e2', e3', HB'⟩ := ac_at (C_fr H' hf) hlt
      go_wp2
      go_quiet ((go_at_call 18; exact Calls.quiet_of_same ((sameBytes_same _ _ _ _ _ _ (C_fr HB ((Fr.refl _).drewN _)) (C_fr HB' ((Fr.refl _).drewN _))).mono fun _ _ ⟨a, b⟩ => ⟨a, b.symm⟩)))
      go_wp2
      go_roundw
      case rel => exact ⟨k + 1, hlt, rfl, hf.drewN _⟩
      case measure => simp [intOf]; omega
    · go_wp2
      go_ret
      exact ⟨rfl, hf⟩
end Go.Proofs.YtmlplfmddbjegaaDoor
