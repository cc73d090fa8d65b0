/-
  lines.line: the program's line of an act. Conditions: the act may be; the table of words and strconv's table read as they are laid.
-/
import Derived.Test.YtmlplfmddbjegaaDoorLLine
import Derived.WalkSmall
namespace Go.Proofs.YtmlplfmddbjegaaDoor
open Go.RowKit Go.Proofs.YtmlplfmddbjegaaDoorW.PrintWords

def wordB : Nat → Bs
  | 0 => []
  | 1 => [97, 115, 107]
  | 2 => [115, 121, 110, 99]
  | 3 => [99, 114, 97, 115, 104]
  | _ => [115, 116, 97, 114, 116]
/-- The program's tables, as they are laid. -/
structure Env (w : World) : Prop where
  words : ∀ k, k < 5 → w.cell? ⟨0, k, none⟩ = some (.string (str (wordB k)))
  pow : Lib.TabIs Tryd.prog w "internal/strconv.uint64pow10" .u64 Lib.pow10Tab
theorem TabIs_fr {P : Program} {w w' : World} {name : String} {k : IntKind} {zs : List Int} (h : Lib.TabIs P w name k zs) (hf : Fr w w') : Lib.TabIs P w' name k zs := by
  unfold Lib.TabIs at *
  unfold World.var? at *
  cases hg : P.globalNamed name with
  | none => rw [hg] at h; cases h
  | some g =>
    simp only [hg, Option.bind_some] at h ⊢
    cases hb : w.heap[g]? with
    | none => rw [hb] at h; cases h
    | some o => rw [hf.block hb]; rw [hb] at h; exact h
theorem Env.fr {w w' : World} (h : Env w) (hf : Fr w w') : Env w' := ⟨fun k hk => hf.cell (h.words k hk), TabIs_fr h.pow hf⟩

/-- A builder that holds these bytes. -/
def Bd (b : Nat) (l : Bs) (w : World) : Prop := Lib.IsBuilder 38 5 b b (Lib.byteCells l) w
theorem Bd.lt {b : Nat} {l : Bs} {w : World} (h : Bd b l w) : b < w.heap.size := by
  rcases h with h | h
  · exact h.lt
  · exact h.lt
theorem putS (b : Nat) (l : Bs) (s : ByteArray) (w : World) (h : Bd b l w) (hlen : l.length + s.size ≤ 140737488355328) :
    Calls Tryd.prog 13 #[.pointer (some ⟨b, 0, none⟩), .string s] w fun e w' => e = .returned (.tuple #[.int .i64 s.size, .nilIface]) ∧ Bd b (l ++ s.data.toList) w' ∧ Below b w w' := by
  refine (writeString b b _ s w h (by rw [Lib.byteCells_length]; exact hlen) (Nat.le_of_lt h.lt)).mono ?_
  rintro e w' ⟨rfl, h1, h2⟩
  refine ⟨rfl, .inr ?_, h2⟩
  have : Lib.byteCells (l ++ s.data.toList) = Lib.byteCells l ++ Lib.strCells s := by simp [Lib.byteCells, Lib.strCells]
  rw [this]
  exact h1
theorem Bd_fr {b : Nat} {l : Bs} {w w' : World} (h : Bd b l w) (hf : Fr w w') : Bd b l w' := by
  have step : ∀ p, Lib.BuilderAt 38 5 b b p (Lib.byteCells l) w → Lib.BuilderAt 38 5 b b p (Lib.byteCells l) w' := fun p ⟨hB, v, hbk, hown, hne⟩ =>
    ⟨hB, v, hf.block hbk, own_move hown (fun k hk => hf.out.block k (own_lt hown k hk)), hne⟩
  rcases h with h | h
  · exact .inl (step _ h)
  · exact .inr (step _ h)
theorem endS (b : Nat) (l : Bs) (w : World) (h : Bd b l w) :
    Calls Tryd.prog 15 #[.pointer (some ⟨b, 0, none⟩)] w fun e w' => e = .returned (.string (str l)) ∧ Below b w w' :=
  Tryd.Builder_String_any b b l w h (Nat.le_of_lt h.lt)
theorem itoaS (n : Int) (h0 : 0 ≤ n) (h1 : n ≤ 9223372036854775807) (w : World) (he : Env w) :
    Calls Tryd.prog 23 #[.int .i64 n] w fun e w' => e = .returned (.string (str (Lib.decDigits n.toNat))) ∧ Fr w w' := by
  refine (Tryd.strconv_Itoa n (by omega) h1 w he.pow).mono ?_
  rintro e w' ⟨rfl, k, os, rfl⟩
  refine ⟨?_, ?_⟩
  · unfold Lib.itoa
    rw [if_neg (by omega)]
    rfl
  · exact (Fr.refl w).drewN k |>.trans ⟨⟨rfl, rfl, rfl, by simp [Sort.grow], fun i hi => by
      show ((w.drewN k).heap ++ os)[i]? = _
      rw [Array.getElem?_append_left hi]⟩⟩

theorem bl_box {w w' : World} {cs cs' : Array Value} {t t' : TypeId} (h : Below (w.heap.size + 1) ((w.alloc (.cells cs t)).alloc (.cells cs' t')) w') : w'.heap[w.heap.size]? = some (.cells cs t (0, 0)) := by
  rw [h.block _ (by omega)]
  exact (Fr.refl (w.alloc (.cells cs t))).alloc _ |>.block (heap_alloc_new w _)
set_option maxHeartbeats 1000000 in
set_option maxRecDepth 100000 in
theorem linesLine234 (a : Ac) (A : Option Addr) (c : Nat) (w : World) (H : kU8.C w A a.data.length a.data) (ha : actErr a = 0) (he : Env w) (hk1 : a.kind ≠ 1) :
    Calls Tryd.prog 14 #[.agg #[.int .i64 a.kind, .int .i64 a.session, .int .i64 a.keep, .slice A a.data.length c]] w
      fun e w' => e = .returned (.string (str (lineB a ++ [10]))) ∧ Fr w w' := by
  obtain ⟨k, s, p, d⟩ := a
  have ha' : actErrN k s p d.length = 0 := ha
  have h4 : d.length ≤ 4000 := by unfold actErrN at ha'; (repeat' split at ha') <;> omega
  have hk : k = 2 ∨ k = 3 ∧ 0 ≤ p ∧ p ≤ 200000 ∨ k = 4 := by unfold actErrN at ha'; simp only at hk1; (repeat' split at ha') <;> omega
  clear ha ha' hk1
  rcases hk with rfl | ⟨rfl, hp0, hp1⟩ | rfl
  · have HE : lineB ⟨2, s, p, d⟩ = [115, 121, 110, 99] := rfl
    rw [HE]
    clear HE
    have hw2 := he.words 2 (by decide)
    have hw0 := World.block_lt_of_cell? w _ hw2
    simp only at hw0
    go_enter Tryd.func14, Tryd.ntmps14
    go_wp2_with fail
    refine (putS (w.heap.size + 1) [] _ _ (by have := Lib.fresh_isBuilder 38 5 (w.alloc (.cells #[.int .i64 2, .int .i64 s, .int .i64 p, .slice A d.length c] 34)); simpa [Bd, Lib.byteCells] using this) (by simp [str_size, wordB])).mono ?_
    rintro e w1 ⟨rfl, hB1, hb1⟩
    have hbx := bl_box hb1
    have g0 := blk_cell hbx 0
    simp at g0
    rw [str_list] at hB1
    go_wp2_with fail
    refine (putS (w.heap.size + 1) _ _ _ hB1 (by simp [wordB]; decide)).mono ?_
    rintro e w2 ⟨rfl, hB2, hb2⟩
    clear g0
    go_wp2_with fail
    refine (endS (w.heap.size + 1) _ _ hB2).mono ?_
    rintro e w3 ⟨rfl, hb3⟩
    go_wp2
    go_ret
    refine ⟨?_, ?_⟩
    · rfl
    · exact ⟨(((Fr.refl w).alloc _).alloc _).out.trans (((hb1.trans hb2).trans hb3).mono (Nat.le_succ _))⟩
  · have HE : lineB ⟨3, s, p, d⟩ = [99, 114, 97, 115, 104, 32] ++ Lib.decDigits p.toNat := rfl
    rw [HE]
    clear HE
    have hw2 := he.words 3 (by decide)
    have hw0 := World.block_lt_of_cell? w _ hw2
    simp only at hw0
    have hlen := decD_len _ p.toNat (Nat.lt_succ_self _)
    have HL := Lib.hid hlen
    clear hlen
    go_enter Tryd.func14, Tryd.ntmps14
    go_wp2_with fail
    refine (putS (w.heap.size + 1) [] _ _ (by have := Lib.fresh_isBuilder 38 5 (w.alloc (.cells #[.int .i64 3, .int .i64 s, .int .i64 p, .slice A d.length c] 34)); simpa [Bd, Lib.byteCells] using this) (by simp [str_size, wordB])).mono ?_
    rintro e w1 ⟨rfl, hB1, hb1⟩
    have hbx := bl_box hb1
    have g0 := blk_cell hbx 0
    have g2 := blk_cell hbx 2
    simp at g0 g2
    rw [str_list] at hB1
    have hf1 : Fr w w1 := ⟨(((Fr.refl w).alloc _).alloc _).out.trans (hb1.mono (Nat.le_succ _))⟩
    have hsz0 : (str (Lib.decDigits p.toNat)).size ≤ 300000 := by rw [str_size]; have := HL.out; omega
    have hlt1 := hB1.lt
    go_wp2_with fail
    refine (itoaS p hp0 (by omega) w1 (he.fr hf1)).mono ?_
    rintro e w2 ⟨rfl, hf2⟩
    clear g0 g2
    go_wp2_with fail
    have hB1' : Bd (w.heap.size + 1) ([] ++ wordB 3) w2 := Bd_fr hB1 hf2
    rw [show ({ data := #[32] } : ByteArray) ++ str (Lib.decDigits p.toNat) = str ([32] ++ Lib.decDigits p.toNat) by rw [← add_str]; rfl]
    refine (putS (w.heap.size + 1) _ _ _ hB1' (by have h1 := HL.out; rw [str_size]; simp only [List.length_append, List.length_nil, wordB, List.length_cons]; omega)).mono ?_
    rintro e w3 ⟨rfl, hB2, hb2⟩
    rw [str_list] at hB2
    go_wp2_with fail
    refine (putS (w.heap.size + 1) _ _ _ hB2 (by have h1 := HL.out; show _ + 1 ≤ _; simp only [List.length_append, List.length_nil, wordB, List.length_cons]; omega)).mono ?_
    rintro e w4 ⟨rfl, hB3, hb3⟩
    go_wp2_with fail
    refine (endS (w.heap.size + 1) _ _ hB3).mono ?_
    rintro e w5 ⟨rfl, hb4⟩
    go_wp2
    go_ret
    refine ⟨?_, ?_⟩
    · simp [wordB]
    · exact ⟨hf1.out.trans ((hf2.out.mono hf1.size).trans (((hb2.trans hb3).trans hb4).mono (Nat.le_succ _)))⟩
  · have HE : lineB ⟨4, s, p, d⟩ = [115, 116, 97, 114, 116] := rfl
    rw [HE]
    clear HE
    have hw2 := he.words 4 (by decide)
    have hw0 := World.block_lt_of_cell? w _ hw2
    simp only at hw0
    go_enter Tryd.func14, Tryd.ntmps14
    go_wp2_with fail
    refine (putS (w.heap.size + 1) [] _ _ (by have := Lib.fresh_isBuilder 38 5 (w.alloc (.cells #[.int .i64 4, .int .i64 s, .int .i64 p, .slice A d.length c] 34)); simpa [Bd, Lib.byteCells] using this) (by simp [str_size, wordB])).mono ?_
    rintro e w1 ⟨rfl, hB1, hb1⟩
    have hbx := bl_box hb1
    have g0 := blk_cell hbx 0
    simp at g0
    rw [str_list] at hB1
    go_wp2_with fail
    refine (putS (w.heap.size + 1) _ _ _ hB1 (by simp [wordB]; decide)).mono ?_
    rintro e w2 ⟨rfl, hB2, hb2⟩
    clear g0
    go_wp2_with fail
    refine (endS (w.heap.size + 1) _ _ hB2).mono ?_
    rintro e w3 ⟨rfl, hb3⟩
    go_wp2
    go_ret
    refine ⟨?_, ?_⟩
    · rfl
    · exact ⟨(((Fr.refl w).alloc _).alloc _).out.trans (((hb1.trans hb2).trans hb3).mono (Nat.le_succ _))⟩
end Go.Proofs.YtmlplfmddbjegaaDoor
