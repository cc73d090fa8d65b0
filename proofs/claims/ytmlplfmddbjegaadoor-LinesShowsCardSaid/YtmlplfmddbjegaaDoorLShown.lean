/-
  canopyref.ActsShown answers 'showRes'. No condition but what a slice may take.
-/
import Derived.Test.YtmlplfmddbjegaaDoorLLine
namespace Go.Proofs.YtmlplfmddbjegaaDoor
open Go.RowKit Go.Proofs.YtmlplfmddbjegaaDoorW.PrintWords

def linesB (l : List Ac) : Bs := l.flatMap fun a => lineB a ++ [10]
def showFrom : Nat → Bs → List Ac → Bs × Int × Int
  | _, pre, [] => (pre, 0, 0)
  | k, pre, a :: l => if actErr a = 0 then showFrom (k + 1) (pre ++ lineB a ++ [10]) l else ([], k, actErr a)
/-- P10.3: the text, the place, the error. -/
def showRes (l : List Ac) : Bs × Int × Int := if 100000 < l.length then ([], 0, 1) else showFrom 0 [] l
/-- Behind k acts, all of which may be. -/
def SRel (l : List Ac) (k : Nat) (pre : Bs) : Prop := showFrom 0 [] l = showFrom k pre (l.drop k) ∧ pre.length ≤ k * 200020
theorem SRel.zero (l : List Ac) : SRel l 0 [] := ⟨rfl, by simp⟩
theorem lineB_len {a : Ac} (h : actErr a = 0) : (lineB a).length ≤ 200010 := by
  obtain ⟨k, s, p, d⟩ := a
  have ha' : actErrN k s p d.length = 0 := h
  have h4 : d.length ≤ 4000 := by unfold actErrN at ha'; (repeat' split at ha') <;> omega
  have hk : k = 1 ∧ 0 ≤ s ∧ s ≤ 7 ∨ k = 2 ∨ k = 3 ∧ 0 ≤ p ∧ p ≤ 200000 ∨ k = 4 := by unfold actErrN at ha'; (repeat' split at ha') <;> omega
  have h1 := decD_len _ s.toNat (Nat.lt_succ_self _)
  have h2 := decD_len _ p.toNat (Nat.lt_succ_self _)
  unfold lineB
  (repeat' split) <;> simp [hexAll_len] at * <;> omega
theorem SRel.next {l : List Ac} {k : Nat} {pre : Bs} (h : SRel l k pre) (hk : k < l.length) (ha : actErr l[k] = 0) : SRel l (k + 1) (pre ++ lineB l[k] ++ [10]) := by
  refine ⟨?_, ?_⟩
  · rw [h.1, List.drop_eq_getElem_cons hk, showFrom, if_pos ha]
  · have := lineB_len ha
    have := h.2
    simp
    omega
theorem SRel.bad {l : List Ac} {k : Nat} {pre : Bs} (h : SRel l k pre) (hk : k < l.length) (ha : actErr l[k] ≠ 0) : showFrom 0 [] l = ([], (k : Int), actErr l[k]) := by
  rw [h.1, List.drop_eq_getElem_cons hk, showFrom, if_neg ha]
theorem SRel.done {l : List Ac} {k : Nat} {pre : Bs} (h : SRel l k pre) (hk : l.length ≤ k) : showFrom 0 [] l = (pre, 0, 0) := by
  rw [h.1, List.drop_eq_nil_of_le hk, showFrom]
def showV (r : Bs × Int × Int) : Value := .tuple #[.string (str r.1), .int .i64 r.2.1, .int .i64 r.2.2]

set_option maxHeartbeats 1000000 in
set_option maxRecDepth 100000 in
theorem refShown (A : Option Addr) (c : Nat) (l : List Ac) (w : World) (H : kAc.C w A l.length l) :
    Calls Tryd.prog 7 #[.slice A l.length c] w fun e w' => e = .returned (showV (showRes l)) ∧ Fr w w' := by
  have hn : l.length ≤ 9223372036854775807 := H.2.1
  by_cases hbig : 100000 < l.length
  · have HE := Lib.hid (show showRes l = ([], 0, 1) by unfold showRes; rw [if_pos hbig])
    go_enter Tryd.func7, Tryd.ntmps7
    go_wp2
    go_ret3
    rw [HE.out]
    exact ⟨rfl, Fr.refl _⟩
  · have HE := Lib.hid (show showRes l = showFrom 0 [] l by unfold showRes; rw [if_neg hbig])
    go_enter Tryd.func7, Tryd.ntmps7
    go_wp2
    go_loopw [5, 6] (fun o i wr => ∃ (k : Nat) (pre : Bs), k ≤ l.length ∧ i = .int .i64 k ∧ kU8.R 5 wr w.heap.size Tr o pre ∧ Fr w wr ∧ SRel l k pre) (fun _ i _ => l.length - (intOf i).toNat)
    case atStart => exact ⟨0, [], Nat.zero_le _, rfl, Kd.R_nil _ _ _ _ _, Fr.refl _, SRel.zero l⟩
    case round =>
      obtain ⟨k, pre, hk, rfl, hr, hf, hs⟩ := hrel
      by_cases hlt : k < l.length
      · obtain ⟨ad, B, cb, rfl, e0, e1, e2, e3, HB⟩ := ac_at (C_fr H hf) hlt
        have hpl := hs.2
        by_cases hbad : actErr l[k] = 0
        · have hnx := hs.next hlt hbad
          have hll := lineB_len hbad
          have HBAD := Lib.hid hbad
          clear hbad
          go_wp2_with fail
          refine (actFaultN _ _ _ _ _ _ HB.2.1 _).mono ?_
          rintro e w1 ⟨rfl, hf1⟩
          rw [show actErrN l[k].kind l[k].session l[k].keep l[k].data.length = 0 from HBAD.out]
          have e0' := hf1.cell e0
          have e1' := hf1.cell e1
          have e2' := hf1.cell e2
          have e3' := hf1.cell e3
          clear e0 e1 e2 e3
          go_wp2_with fail
          refine (refLine l[k] _ _ _ (C_fr HB hf1) HBAD.out).mono ?_
          rintro e w2 ⟨v, rfl, hv, hf2⟩
          obtain ⟨A2, c2, rfl, _, HC2⟩ := Kd.R_reads hv
          clear e0' e1' e2' e3'
          have hf12 := hf1.trans hf2
          go_wp2_with (first | (at_builtin; refine appB (s := .tmp 26) (x := .tmp 31) I_u8 rfl rfl (R_fr hr hf12) HC2 rfl rfl (hf.trans hf12) rfl ?_ ?_; omega; intro v3 w3 j1 j2 j3) | (at_builtin; refine appB (s := .tmp 33) (x := .tmp 34) (ys := [10]) I_u8 rfl rfl (R_fr j1 ((Fr.refl _).alloc _)) (C_block (heap_alloc_new _ _) rfl (by decide)) rfl rfl (j2.alloc _) rfl ?_ ?_; (simp; omega); intro v4 w4 j4 j5 j6))
          go_roundw
          case rel => exact ⟨k + 1, _, hlt, rfl, j4, j5, hnx⟩
          case measure => simp [intOf]; omega
        · have hbd := Lib.hid (hs.bad hlt hbad)
          have hne : (actErr l[k] != 0) = true := by simp [hbad]
          go_wp2_with fail
          refine (actFaultN _ _ _ _ _ _ HB.2.1 _).mono ?_
          rintro e w1 ⟨rfl, hf1⟩
          rw [show actErrN l[k].kind l[k].session l[k].keep l[k].data.length = actErr l[k] from rfl]
          go_wp2
          go_ret3
          rw [HE.out, hbd.out]
          exact ⟨rfl, hf.trans hf1⟩
      · have hdn := Lib.hid (hs.done (by omega))
        obtain ⟨A2, c2, rfl, _, HC2⟩ := Kd.R_reads hr
        have kc := C_string (P := Tryd.prog) (c := c2) Tryd.underlying32 Tryd.underlying5 Tryd.underlying9 HC2
        go_wp2
        go_ret3
        rw [HE.out, hdn.out]
        exact ⟨rfl, hf⟩
end Go.Proofs.YtmlplfmddbjegaaDoor
