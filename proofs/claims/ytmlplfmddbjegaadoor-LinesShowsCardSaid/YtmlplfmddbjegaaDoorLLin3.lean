/-
  lines.line of an ask; lines.line whole. Conditions as in the text ahead.
-/
import Derived.Test.YtmlplfmddbjegaaDoorLLin2
namespace Go.Proofs.YtmlplfmddbjegaaDoor
open Go.RowKit Go.Proofs.YtmlplfmddbjegaaDoorW.PrintWords
theorem hex_extract : ∀ i, i < 16 → (({ data := #[48, 49, 50, 51, 52, 53, 54, 55, 56, 57, 97, 98, 99, 100, 101, 102] } : ByteArray).extract i (i + 1)) = str [hexB i] := by decide +kernel
set_option maxHeartbeats 1000000 in
set_option maxRecDepth 100000 in
theorem linesLine1 (s p : Int) (d : Bs) (A : Option Addr) (c : Nat) (w : World) (H : kU8.C w A d.length d) (hs0 : 0 ≤ s) (hs1 : s ≤ 7) (h4 : d.length ≤ 4000) (he : Env w) :
    Calls Tryd.prog 14 #[.agg #[.int .i64 1, .int .i64 s, .int .i64 p, .slice A d.length c]] w
      fun e w' => e = .returned (.string (str (lineB ⟨1, s, p, d⟩ ++ [10]))) ∧ Fr w w' := by
  have HE : lineB ⟨1, s, p, d⟩ = [97, 115, 107, 32] ++ Lib.decDigits s.toNat ++ [32] ++ hexAll d := rfl
  rw [HE]
  clear HE
  have hw2 := he.words 1 (by decide)
  have hw0 := World.block_lt_of_cell? w _ hw2
  simp only at hw0
  have hlen := decD_len _ s.toNat (Nat.lt_succ_self _)
  have HL := Lib.hid hlen
  clear hlen
  go_enter Tryd.func14, Tryd.ntmps14
  go_wp2_with fail
  refine (putS (w.heap.size + 1) [] _ _ (by have := Lib.fresh_isBuilder 38 5 (w.alloc (.cells #[.int .i64 1, .int .i64 s, .int .i64 p, .slice A d.length c] 34)); simpa [Bd, Lib.byteCells] using this) (by simp [str_size, wordB])).mono ?_
  rintro e w1 ⟨rfl, hB1, hb1⟩
  have hbx := bl_box hb1
  have g0 := blk_cell hbx 0
  have g1 := blk_cell hbx 1
  simp at g0 g1
  rw [str_list] at hB1
  have hf1 : Fr w w1 := ⟨(((Fr.refl w).alloc _).alloc _).out.trans (hb1.mono (Nat.le_succ _))⟩
  have hsz0 : (str (Lib.decDigits s.toNat)).size ≤ 300000 := by rw [str_size]; have := HL.out; omega
  have hlt1 := hB1.lt
  go_wp2_with fail
  refine (itoaS s hs0 (by omega) w1 (he.fr hf1)).mono ?_
  rintro e w2 ⟨rfl, hf2⟩
  clear g0 g1
  go_wp2_with fail
  have hB1' : Bd (w.heap.size + 1) ([] ++ wordB 1) w2 := Bd_fr hB1 hf2
  rw [show ({ data := #[32] } : ByteArray) ++ str (Lib.decDigits s.toNat) ++ { data := #[32] } = str ([32] ++ Lib.decDigits s.toNat ++ [32]) by rw [← add_str, ← add_str]; rfl]
  refine (putS (w.heap.size + 1) _ _ _ hB1' (by have h1 := HL.out; rw [str_size]; simp only [List.length_append, List.length_nil, wordB, List.length_cons]; omega)).mono ?_
  rintro e w3 ⟨rfl, hB2, hb2⟩
  rw [str_list] at hB2
  have hbx3 := hb2.block (w.heap.size) (Nat.lt_succ_self _) |>.trans (hf2.block hbx)
  have g3 := blk_cell hbx3 3
  simp at g3
  have hf3 : Fr w w3 := ⟨hf1.out.trans ((hf2.out.mono hf1.size).trans (hb2.mono (Nat.le_succ _)))⟩
  generalize hP : [] ++ wordB 1 ++ ([32] ++ Lib.decDigits s.toNat ++ [32]) = P at *
  have HPE := Lib.hid hP
  have hPl : P.length ≤ 300100 := by
    have h1 := HL.out
    rw [← hP]
    simp only [List.length_append, List.length_nil, wordB, List.length_cons]
    omega
  clear hP hB1 hB1' hbx hbx3 hw2 hb1 hb2
  go_wp2
  go_loopw [28] (fun i wr => ∃ k : Nat, k ≤ d.length ∧ i = .int .i64 k ∧ Bd (w.heap.size + 1) (P ++ hexAll (d.take k)) wr ∧ Fr w wr) (fun i _ => d.length - (intOf i).toNat)
  case atStart => exact ⟨0, Nat.zero_le _, rfl, by simpa [hexAll] using hB2, hf3⟩
  case round =>
    clear g3
    obtain ⟨k, hk, rfl, hB, hfr⟩ := hrel
    by_cases hlt : k < d.length
    · obtain ⟨ad, rfl, hcell⟩ := C_cells H (by omega)
      have hbw := Lib.hid (hcell k d[k] (List.getElem?_eq_getElem hlt))
      have hb := hfr.cell hbw.out
      have HX2 := Lib.hid (hexAll_snoc d k hlt)
      generalize d[k] = b at *
      have hb0 : (b.toNat : Int) ≤ 255 := by have := b.toNat_lt; omega
      unfold encB at hb
      go_wp2_with fail
      have hb16 : b.toNat / 16 < 16 := by have := b.toNat_lt; omega
      rw [hex_extract _ hb16]
      have hl1 := hexAll_len (d.take k)
      have hl2 : (d.take k).length ≤ k := List.length_take_le _ _
      have HL1 := Lib.hid hl1
      clear hl1
      refine (putS (w.heap.size + 1) _ _ _ hB (by have h1 := HL1.out; rw [str_size, List.length_append, h1, List.length_singleton]; omega)).mono ?_
      rintro e w4 ⟨rfl, hB4, hb4⟩
      rw [str_list] at hB4
      clear hb
      go_wp2_with fail
      rw [hex_extract _ (Nat.mod_lt _ (by decide))]
      refine (putS (w.heap.size + 1) _ _ _ hB4 (by have h1 := HL1.out; rw [str_size, List.length_append, List.length_append, h1, List.length_singleton, List.length_singleton]; omega)).mono ?_
      rintro e w5 ⟨rfl, hB5, hb5⟩
      rw [str_list] at hB5
      go_wp2_with fail
      go_roundw
      case rel => exact ⟨k + 1, hlt, rfl, by rw [HX2.out]; simpa [hex2] using hB5, ⟨hfr.out.trans ((hb4.trans hb5).mono (Nat.le_succ _))⟩⟩
      case measure => simp [intOf]; omega
    · rw [List.take_of_length_le (by omega)] at hB
      have hl1 := hexAll_len d
      have HL1 := Lib.hid hl1
      clear hl1
      go_wp2_with fail
      refine (putS (w.heap.size + 1) _ _ _ hB (by have h1 := HL1.out; show _ + 1 ≤ _; rw [List.length_append, h1]; omega)).mono ?_
      rintro e w4 ⟨rfl, hB4, hb4⟩
      go_wp2_with fail
      refine (endS (w.heap.size + 1) _ _ hB4).mono ?_
      rintro e w5 ⟨rfl, hb5⟩
      go_wp2
      go_ret
      refine ⟨?_, ⟨hfr.out.trans ((hb4.trans hb5).mono (Nat.le_succ _))⟩⟩
      rw [← HPE.out]
      simp [wordB]

theorem linesLine (a : Ac) (A : Option Addr) (c : Nat) (w : World) (H : kU8.C w A a.data.length a.data) (ha : actErr a = 0) (he : Env w) :
    Calls Tryd.prog 14 #[.agg #[.int .i64 a.kind, .int .i64 a.session, .int .i64 a.keep, .slice A a.data.length c]] w
      fun e w' => e = .returned (.string (str (lineB a ++ [10]))) ∧ Fr w w' := by
  by_cases h : a.kind = 1
  · obtain ⟨k, s, p, d⟩ := a
    obtain rfl : k = 1 := h
    have ha' : actErrN 1 s p d.length = 0 := ha
    exact linesLine1 s p d A c w H (by unfold actErrN at ha'; (repeat' split at ha') <;> omega) (by unfold actErrN at ha'; (repeat' split at ha') <;> omega) (by unfold actErrN at ha'; (repeat' split at ha') <;> omega) he
  · exact linesLine234 a A c w H ha he h
end Go.Proofs.YtmlplfmddbjegaaDoor
