/-
  canopyref.actLine, ActsShown: the reference's side of lines.Show. Conditions: the acts may be (actErr = 0) where a line is made.
-/
import Derived.Test.YtmlplfmddbjegaaDoorLCheck
import Derived.Test.YtmlplfmddbjegaaDoorLDec
namespace Go.Proofs.YtmlplfmddbjegaaDoor
open Go.RowKit Go.Proofs.YtmlplfmddbjegaaDoorW.PrintWords

/-- Two hex digits a byte. -/
def hex2 (b : UInt8) : Bs := [hexB (b.toNat / 16), hexB (b.toNat % 16)]
def hexAll (l : Bs) : Bs := l.flatMap hex2
/-- P10.2, without the line feed. -/
def lineB (a : Ac) : Bs :=
  if a.kind = 1 then [97, 115, 107, 32] ++ Lib.decDigits a.session.toNat ++ [32] ++ hexAll a.data
  else if a.kind = 2 then [115, 121, 110, 99]
  else if a.kind = 3 then [99, 114, 97, 115, 104, 32] ++ Lib.decDigits a.keep.toNat
  else [115, 116, 97, 114, 116]
theorem hexAll_len (l : Bs) : (hexAll l).length = 2 * l.length := by
  induction l with
  | nil => rfl
  | cons a l ih => simp [hexAll, hex2] at *; omega
theorem hexAll_snoc (l : Bs) (k : Nat) (h : k < l.length) : hexAll (l.take (k + 1)) = hexAll (l.take k) ++ hex2 l[k] := by
  rw [List.take_succ_eq_append_getElem h]
  unfold hexAll
  rw [List.flatMap_append]
  simp

set_option maxHeartbeats 1000000 in
set_option maxRecDepth 100000 in
theorem refLine (a : Ac) (A : Option Addr) (c : Nat) (w : World) (H : kU8.C w A a.data.length a.data) (ha : actErr a = 0) :
    Calls Tryd.prog 17 #[.agg #[.int .i64 a.kind, .int .i64 a.session, .int .i64 a.keep, .slice A a.data.length c]] w
      fun e w' => ∃ v, e = .returned v ∧ kU8.R 5 w' w.heap.size Tr v (lineB a) ∧ Fr w w' := by
  obtain ⟨k, s, p, d⟩ := a
  have ha' : actErrN k s p d.length = 0 := ha
  have h4 : d.length ≤ 4000 := by unfold actErrN at ha'; (repeat' split at ha') <;> omega
  have hk : k = 1 ∧ 0 ≤ s ∧ s ≤ 7 ∨ k = 2 ∨ k = 3 ∧ 0 ≤ p ∧ p ≤ 200000 ∨ k = 4 := by unfold actErrN at ha'; (repeat' split at ha') <;> omega
  clear ha ha'
  rcases hk with ⟨rfl, hs0, hs1⟩ | rfl | ⟨rfl, hp0, hp1⟩ | rfl
  · have HE : lineB ⟨1, s, p, d⟩ = [97, 115, 107, 32] ++ Lib.decDigits s.toNat ++ [32] ++ hexAll d := rfl
    rw [HE]
    clear HE
    go_enter Tryd.func17, Tryd.ntmps17
    go_wp2_with (at_builtin; go_must (refine appS I_u8 rfl rfl Tryd.underlying9 rfl rfl (Kd.R_nil _ _ _ _ _) rfl rfl ((Fr.refl _).alloc _) rfl (by decide) ?_); intro v1 w1 h1 h2 h3; have hb := h3.blk (heap_alloc_new w _) (by decide); have g1 := blk_cell hb 1; simp at g1)
    refine (refDec (s.toNat + 1) s hs0 (by omega) (by omega) w1).mono ?_
    rintro e w2 ⟨rfl, hf⟩
    clear g1
    have HB2 := Lib.hid (hf.block hb)
    clear hb
    have hlen := decD_len _ s.toNat (Nat.lt_succ_self _)
    have HL := Lib.hid hlen
    go_wp2_with (first | (at_builtin; refine appS (s := .tmp 11) (x := .tmp 14) I_u8 rfl rfl Tryd.underlying9 rfl rfl (R_fr h1 hf) rfl rfl (h2.trans hf) rfl (by rw [str_size]; simp; omega) ?_; intro v2 w3 h4 h5 h6) | (at_builtin; go_must (refine appB (s := .tmp 16) (x := .tmp 17) (ys := [32]) I_u8 rfl rfl (R_fr h4 ((Fr.refl _).alloc _)) (C_block (heap_alloc_new w3 _) rfl (by decide)) rfl rfl (h5.alloc _) rfl (by rw [str_list]; simp; omega) ?_); intro v3 w4 h7 h8 h9))
    have hbx : w4.heap[w.heap.size]? = some (.cells #[.int .i64 1, .int .i64 s, .int .i64 p, .slice A d.length c] 34 (0, 0)) :=
      h9.blk (((Fr.refl w3).alloc _).block (h6.blk HB2.out (by decide))) (by decide)
    rw [str_list] at h7
    have H7 : kU8.R 5 w4 w.heap.size Tr v3 ([97, 115, 107, 32] ++ Lib.decDigits s.toNat ++ [32]) := h7
    generalize hP : [97, 115, 107, 32] ++ Lib.decDigits s.toNat ++ [32] = P at *
    have hPl : P.length ≤ 100 := by
      have := HL.out
      rw [← hP]
      simp
      omega
    have hf4 : Fr w w4 := h8
    have HPE := Lib.hid hP
    clear HL hP h1 h2 h3 h4 h5 h6 h7 h8 h9 hf HB2 hlen
    go_loopw [3, 4] (fun o i wr => ∃ k : Nat, k ≤ d.length ∧ i = .int .i64 k ∧ kU8.R 5 wr w.heap.size Tr o (P ++ hexAll (d.take k)) ∧ Fr w wr ∧ Hid (wr.heap[w.heap.size]? = some (.cells #[.int .i64 1, .int .i64 s, .int .i64 p, .slice A d.length c] 34 (0, 0)))) (fun _ i _ => d.length - (intOf i).toNat)
    case atStart => exact ⟨0, Nat.zero_le _, rfl, by simpa [hexAll] using H7, hf4, Lib.hid hbx⟩
    case round =>
      obtain ⟨k, hk, rfl, hr, hfr, HBX⟩ := hrel
      have g3 := blk_cell HBX.out 3
      simp at g3
      by_cases hlt : k < d.length
      · obtain ⟨ad, rfl, hcell⟩ := C_cells H (by omega)
        have hbw := Lib.hid (hcell k d[k] (List.getElem?_eq_getElem hlt))
        have hb := hfr.cell hbw.out
        have hx2 := hexAll_snoc d k hlt
        have HX2 := Lib.hid hx2
        clear hx2
        generalize d[k] = b at *
        have hb0 : (b.toNat : Int) ≤ 255 := by have := b.toNat_lt; omega
        unfold encB at hb
        go_wp2
        have q1 : IntKind.i64.wrap ((b.toNat : Int).tdiv 16) = (b.toNat : Int) / 16 := by rw [Int.tdiv_eq_ediv_of_nonneg (by omega)]; exact IntWalk.i64_in _ (by omega)
        have q3 : IntKind.i64.wrap ((b.toNat : Int) / 16) = (b.toNat : Int) / 16 := IntWalk.i64_in _ (by omega)
        have q2 : (b.toNat : Int).tmod 16 = (b.toNat : Int) % 16 := Int.tmod_eq_emod_of_nonneg (by omega)
        have q0 : IntKind.i64.wrap (b.toNat : Int) = (b.toNat : Int) := IntWalk.i64_in _ (by omega)
        go_region_held3 (fun w' => w'.cell? ⟨w.heap.size, 3, none⟩ = some (.slice (some ad) d.length c) ∧ w'.cell? (ad.add k) = some (.int .u8 (b.toNat : Int))) (first | exact ⟨g3, hb⟩ | exact ⟨Fr.cell ((Fr.refl _).alloc _) g3, Fr.cell ((Fr.refl _).alloc _) hb⟩ | exact ⟨G3, GB⟩)
          (first | (go_at_call 26; go_must ((with_reducible refine (refHexI _ ?_ ?_ _).mono ?_)); omega; omega; rintro e w' ⟨rfl, rfl⟩) | (refine appB_step (ys := hex2 b) I_u8 rfl rfl (R_fr hr (((Fr.refl _).drew).alloc _)) (C_block (heap_alloc_new _ _) rfl (by simp [hex2])) rfl rfl ((hfr.drew).alloc _) rfl ?_ ?_; (rw [List.length_append, hexAll_len, List.length_take]; simp [hex2]; omega); intro v5 w5 j1 j2 j3; have G3 := blk_cell (j3.blk ((((Fr.refl wr).drew).alloc _).block HBX.out) (by decide)) 3; have GB := j2.cell hbw.out; unfold encB at GB; simp at G3))
        go_wp2
        go_roundw
        case rel => exact ⟨k + 1, hlt, rfl, by rw [HX2.out, ← List.append_assoc]; exact j1, j2, Lib.hid (j3.blk ((((Fr.refl wr).drew).alloc _).block HBX.out) (by decide))⟩
        case measure => simp [intOf]; omega
      · go_wp2
        go_ret
        refine ⟨u3, rfl, ?_, hfr⟩
        rw [List.take_of_length_le (by omega), ← HPE.out] at hr
        simpa using hr
  · have HE : lineB ⟨2, s, p, d⟩ = [115, 121, 110, 99] := rfl
    rw [HE]
    clear HE
    go_enter Tryd.func17, Tryd.ntmps17
    go_wp2_with (at_builtin; go_must (refine appS I_u8 rfl rfl Tryd.underlying9 rfl rfl (Kd.R_nil _ _ _ _ _) rfl rfl ((Fr.refl _).alloc _) rfl (by decide) ?_); intro v1 w1 h1 h2 h3)
    go_ret
    exact ⟨v1, rfl, h1, h2⟩
  · have HE : lineB ⟨3, s, p, d⟩ = [99, 114, 97, 115, 104, 32] ++ Lib.decDigits p.toNat := rfl
    rw [HE]
    clear HE
    go_enter Tryd.func17, Tryd.ntmps17
    go_wp2_with (at_builtin; go_must (refine appS I_u8 rfl rfl Tryd.underlying9 rfl rfl (Kd.R_nil _ _ _ _ _) rfl rfl ((Fr.refl _).alloc _) rfl (by decide) ?_); intro v1 w1 h1 h2 h3; have hb := h3.blk (heap_alloc_new w _) (by decide); have g2 := blk_cell hb 2; simp at g2; clear hb)
    refine (refDec (p.toNat + 1) p hp0 (by omega) (by omega) w1).mono ?_
    rintro e w2 ⟨rfl, hf⟩
    clear g2
    have hlen := decD_len _ p.toNat (Nat.lt_succ_self _)
    go_wp2_with (at_builtin; go_must (refine appS I_u8 rfl rfl Tryd.underlying9 rfl rfl (R_fr h1 hf) rfl rfl (h2.trans hf) rfl (by rw [str_size]; simp; omega) ?_); intro v2 w3 h4 h5 h6)
    go_ret
    rw [str_list] at h4
    exact ⟨v2, rfl, h4, h5⟩
  · have HE : lineB ⟨4, s, p, d⟩ = [115, 116, 97, 114, 116] := rfl
    rw [HE]
    clear HE
    go_enter Tryd.func17, Tryd.ntmps17
    go_wp2_with (at_builtin; go_must (refine appS I_u8 rfl rfl Tryd.underlying9 rfl rfl (Kd.R_nil _ _ _ _ _) rfl rfl ((Fr.refl _).alloc _) rfl (by decide) ?_); intro v1 w1 h1 h2 h3)
    go_ret
    exact ⟨v1, rfl, h1, h2⟩
end Go.Proofs.YtmlplfmddbjegaaDoor
