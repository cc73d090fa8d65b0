/-
  The row of the law LinesShows, out of its walk: for every input that reads as data within the reach the call returns true, and the argument reads behind it as it read before.
-/
import Derived.Test.YtmlplfmddbjegaaDoorRows
import Derived.Test.YtmlplfmddbjegaaDoorLLaw
import Derived.Test.YtmlplfmddbjegaaDoorOpen
import Derived.LaidMore
import Derived.LaidSub
import Derived.OpenShut
import Derived.Stop.Joined
import Derived.Carry
namespace Go.Proofs.YtmlplfmddbjegaaDoor
open Go.ChangeShapes Go.WideShapes Go.ChangeAt Go.WideMaps Go.WideElems Go.RowKit
open Go.Proofs.YtmlplfmddbjegaaDoorW.PrintWords (Kd)

theorem own : ownKnob Tryd.prog.godebug = none := by kernel_rfl
theorem laidOut : laidOutB Tryd.prog = true := by kernel_rfl
theorem four {α : Type} {l : List α} (h : l.length = 4) : ∃ a b c d, l = [a, b, c, d] := by
  match l, h with
  | [a, b, c, d], _ => exact ⟨a, b, c, d, rfl⟩
theorem cells_int : Tryd.prog.cellsOf 3 = 1 := by kernel_rfl
theorem cells_bytes : Tryd.prog.cellsOf 32 = 1 := by kernel_rfl
theorem cells_Ac : Tryd.prog.cellsOf 34 = 4 := by kernel_rfl
def okBs (l : Bs) : Prop := l.length ≤ 140737488351232
def okAc (a : Ac) : Prop := okBs a.data
theorem opens_bytes {H : Type} {enc : TypeId × Value → H} : Opens enc Tryd.prog 32 kB okBs := by
  intro W base sp held fuel cs x hx
  obtain ⟨v, h1, h2⟩ := opens_slice (B := 1) Tryd.underlying32 (by kernel_rfl) (by kernel_rfl) (opens_u8 Tryd.underlying5) W base sp held fuel cs x hx
  refine ⟨v, h1, fun h => ?_⟩
  have := (h2 h).1
  unfold okBs
  unfold reachBytes at this
  omega
theorem opens_Ac {H : Type} {enc : TypeId × Value → H} : Opens enc Tryd.prog 34 kAc okAc := by
  intro W base sp held fuel cs x hx
  obtain ⟨xs, m, rfl, rfl, hcl, hxl, hf⟩ := DataW.trod_struct Tryd.underlying34 hx
  rw [cells_Ac] at hcl
  obtain ⟨c0, c1, c2, c3, rfl⟩ := four hcl
  obtain ⟨x0, x1, x2, x3, rfl⟩ := four hxl
  have f0 := hf 0 _ rfl
  have f1 := hf 1 _ rfl
  have f2 := hf 2 _ rfl
  have f3 := hf 3 _ rfl
  simp only [List.getElem_toArray, List.getElem_cons_zero, List.getElem_cons_succ, cells_int, cells_bytes, List.drop_succ_cons, List.drop_zero, List.take_succ_cons, List.take_zero] at f0 f1 f2 f3
  obtain ⟨v0, k0, _⟩ := opens_int Tryd.underlying3 _ _ _ _ _ _ _ f0
  obtain ⟨v1, k1, _⟩ := opens_int Tryd.underlying3 _ _ _ _ _ _ _ f1
  obtain ⟨v2, k2, _⟩ := opens_int Tryd.underlying3 _ _ _ _ _ _ _ f2
  obtain ⟨v3, k3, o3⟩ := opens_bytes _ _ _ _ _ _ _ f3
  refine ⟨⟨v0, v1, v2, v3⟩, ⟨_, _, rfl, k0, _, _, rfl, k1, _, _, rfl, k2, k3⟩, fun h => o3 fun n hn => h n ?_⟩
  simp only [DataW.weights, Tryd.underlying34]
  exact DataW.weights_mem_each (j := 3) rfl rfl n hn
theorem five {α : Type} {l : List α} (h : l.length = 5) : ∃ a b c d e, l = [a, b, c, d, e] := by
  match l, h with
  | [a, b, c, d, e], _ => exact ⟨a, b, c, d, e, rfl⟩
/-- What the row lists. -/
def laidS : List (String × DataW Unit) := [("math/bits.deBruijn32tab", Rows.laid_math_bits_deBruijn32tab), ("math/bits.deBruijn64tab", Rows.laid_math_bits_deBruijn64tab), ("internal/strconv.uint64pow10", Rows.laid_internal_strconv_uint64pow10), ("canopy/lines.words", Rows.laid_canopy_lines_words)]
theorem env_of {l : List (String × DataW Unit)} {W : World} (h : laidMet Tryd.prog l W) (e1 : (l.filter fun x => x.1 == "internal/strconv.uint64pow10") = [("internal/strconv.uint64pow10", Rows.laid_internal_strconv_uint64pow10)])
    (e2 : (l.filter fun x => x.1 == "canopy/lines.words") = [("canopy/lines.words", Rows.laid_canopy_lines_words)]) : Env W := by
  have h1 := h.filter (fun x => x.1 == "internal/strconv.uint64pow10")
  have h2 := h.filter (fun x => x.1 == "canopy/lines.words")
  rw [e1] at h1
  rw [e2] at h2
  refine ⟨?_, Lib.tabIs_of_head (rest := []) (g := 4) (t := 95) (e := 80) (n := 20) (by kernel_rfl) (by kernel_rfl) Tryd.underlying95 Tryd.underlying80 (by kernel_rfl) (by kernel_rfl) h1⟩
  obtain ⟨ps, ⟨g, t, cs, fuel, p, q, hg, ht, hv, hd, _, _⟩, _⟩ := h2
  obtain rfl := Option.some.inj ((show Tryd.prog.globalNamed "canopy/lines.words" = some 0 by kernel_rfl).symm.trans hg)
  obtain rfl := Option.some.inj ((show (Tryd.prog.globals[0]?).map (·.type) = some 52 by kernel_rfl).symm.trans ht)
  have hcell := fun i => World.var?_cell (show Tryd.prog.globalNamed "canopy/lines.words" = some 0 by kernel_rfl) hv i
  obtain ⟨xs, m, rfl, hx, hlen, hn, hel⟩ := DataW.trod_array Tryd.underlying52 hd
  have c9 : Tryd.prog.cellsOf 9 = 1 := by kernel_rfl
  have c5 : Tryd.prog.cellsOf 52 = 5 := by kernel_rfl
  rw [c5] at hlen
  obtain ⟨x0, x1, x2, x3, x4, rfl⟩ := five hn
  obtain ⟨l⟩ := cs
  obtain ⟨k0, k1, k2, k3, k4, rfl⟩ := five hlen
  have f0 := hel 0 (by decide)
  have f1 := hel 1 (by decide)
  have f2 := hel 2 (by decide)
  have f3 := hel 3 (by decide)
  have f4 := hel 4 (by decide)
  simp only [c9, Nat.mul_one, List.drop_zero, List.drop_succ_cons, List.take_succ_cons, List.take_zero, List.getElem?_cons_zero, List.getElem?_cons_succ] at f0 f1 f2 f3 f4
  obtain ⟨s0, e0, rfl, _⟩ := DataW.trod_string Tryd.underlying9 f0
  obtain ⟨s1, e1, rfl, _⟩ := DataW.trod_string Tryd.underlying9 f1
  obtain ⟨s2, e2, rfl, _⟩ := DataW.trod_string Tryd.underlying9 f2
  obtain ⟨s3, e3, rfl, _⟩ := DataW.trod_string Tryd.underlying9 f3
  obtain ⟨s4, e4, rfl, _⟩ := DataW.trod_string Tryd.underlying9 f4
  have hx' := congrArg Prod.fst hx
  simp only [Rows.laid_canopy_lines_words, List.map_cons, List.map_nil, DataW.agg.injEq, List.cons.injEq, DataW.lit.injEq, Lit.string.injEq, and_true] at hx'
  obtain ⟨b0, b1, b2, b3, b4⟩ := hx'
  have fin : ∀ (s : ByteArray) (l : Bs), l = s.data.toList → s = str l := fun s l h => by
    subst h
    apply ByteArray.ext
    simp [str]
  intro k hk
  rw [hcell k]
  simp only [List.cons.injEq, and_true] at e0 e1 e2 e3 e4
  match k, hk with
  | 0, _ => simp [e0, fin _ _ b0, wordB]
  | 1, _ => simp [e1, fin _ _ b1, wordB]
  | 2, _ => simp [e2, fin _ _ b2, wordB]
  | 3, _ => simp [e3, fin _ _ b3, wordB]
  | 4, _ => simp [e4, fin _ _ b4, wordB]

/-- The door's own heap meets the condition. -/
theorem door_met (os : Os) (args : Array Value) : laidMetH Tryd.prog laidS ((World.doorLaid Tryd.prog 400 os).forCall (fun _ _ => 0) ⟨#[], args, []⟩).memory :=
  laidMetH_of_parts3 (fuel := 8) (laidMet_of_run' 8 (by kernel_rfl) (by kernel_rfl)) (by kernel_rfl) (by kernel_rfl)

set_option maxRecDepth 100000 in
theorem lifted (os : Os) (started : os.Started) (H : Type) (enc : TypeId × Value → H) :
    ReturnsInHanded {} Tryd.checked os 3 .any (fun w args => (Rows.linesShowsSpec.pre enc Tryd.prog Tryd.f3 [] false w args ∧ laidMetH Tryd.prog laidS w) ∧ sizedMet enc Tryd.prog Tryd.f3 (OpenSpec.ofChange Rows.linesShowsSpec) false w args)
      (Rows.linesShowsSpec.post enc Tryd.prog Tryd.f3 false true false false) := by
  refine returnsInHanded_of_change_and (C := Tryd.checked) (X := fun w _ => laidMetH Tryd.prog laidS w) (fun _ _ _ hh h => h.of_heap hh) own started (by kernel_rfl) Tryd.func3
    (ChangeSpec.witness_shaped (enc := enc) (C := Tryd.checked) (os := os) (X := fun w _ => laidMetH Tryd.prog laidS w) false (World.doorLaid Tryd.prog 400 os) #[.slice none 0 0] 8 rfl (World.shaped_of_RefB (by kernel_rfl) (by kernel_rfl)) (by kernel_rfl) (by kernel_rfl) (by kernel_rfl) (door_met os _)) ?_
  intro W base args ds gs before hval0 hW _ hsz0 hL _
  have hsz : (DataW.weightsEach Tryd.prog (Tryd.f3.params.toList ++ Rows.linesShowsSpec.plain.varTypes Tryd.prog) (ds ++ gs)).all (· ≤ reachBytes) = true := hsz0
  have hval : ∀ (j : Nat) t v, Tryd.f3.params[j]? = some t → args[j]? = some v → Value.okWide Tryd.prog W .any base t v := hval0
  have hW' := hW
  obtain ⟨p, q, hA0, hV, rfl, hfz, hnd⟩ := hW
  have hA : DataW.TrodAll enc Tryd.prog W 0 (fun _ => true) true Tryd.f3.params.toList args.toList ds p := hA0
  rw [Tryd.params3] at hA hval hsz
  obtain ⟨v0, d0, rfl, rfl, h0⟩ := trodAll_one hA
  obtain ⟨rfl, rfl⟩ := trodVars_none hV
  have hk := h0
  have lt0 : ∀ x ∈ p, x.block < W.heap.size := by obtain ⟨m, hm⟩ := hk; exact DataW.trod_lt m _ _ _ hm
  obtain ⟨a0, len, cap, rfl⟩ := okWide_slice Tryd.underlying22 (hval 0 22 v0 rfl rfl)
  obtain ⟨fuel, hf⟩ := h0
  obtain ⟨l, ⟨A, c, hv, hlc, HC⟩, hOk⟩ := opens_slice (B := 48) Tryd.underlying22 (by kernel_rfl) (by kernel_rfl) opens_Ac _ _ _ _ _ _ _ hf
  have hv' : Value.slice a0 len cap = .slice A l.length c := by simpa [Value.cells] using hv
  have hw := hOk fun n hn => by
    have := List.all_eq_true.1 hsz n (DataW.weights_mem_each (j := 0) rfl rfl n hn)
    simpa using this
  have henv : Env W := env_of (l := laidS) (by
    have h := hL
    rw [MakeChecks.laidMetH_plain _ _ _ (by kernel_rfl)] at h
    exact h) (by kernel_rfl) (by kernel_rfl)
  have hl1 : l.length * 48 ≤ 140737488355328 := by have := hw.1; unfold reachBytes at this; omega
  have hl2 : ∀ a, a ∈ l → a.data.length ≤ 140737488355328 := fun a ha => by have := hw.2 a ha; unfold okAc okBs at this; omega
  clear hA0 hval0 hsz0 hsz hOk hw hL hv hf
  simp only [List.append_nil] at hW'
  injection hv' with e1 e2 e3
  subst e1
  subst e2
  subst e3
  refine (law_shows _ _ l W HC hl1 hl2 henv).mono fun e W' ⟨he, bel⟩ => ?_
  subst he
  exact ⟨_, rfl, _, _, _, [], _, [], hW', trodAll_mk1 (shut_bool Tryd.underlying4 _), trodAll_mk1 (Below.trod laidOut (by kernel_rfl) (of_decide_eq_true (by kernel_rfl)) hk bel.out lt0), rfl, bel.out.frame _, fun h => by cases h⟩

theorem linesShows_holds : Rows.LinesShowsSaid :=
  OpenClaim.holds_of_wide 3 Tryd.f3 rfl rfl rfl rfl rfl rfl rfl ⟨rfl, rfl, rfl, rfl, rfl⟩ rfl rfl rfl rfl rfl (by kernel_rfl) Tryd.func3 (by kernel_rfl)
    (of_decide_eq_true (by kernel_rfl)) (by unfold Func.isWrapper; first | (rw [if_pos (by decide +kernel)]; kernel_rfl) | (rw [if_neg (by decide +kernel)]; exact ⟨rfl, rfl⟩))
    (fun os started H enc _ => lifted os started H enc)
end Go.Proofs.YtmlplfmddbjegaaDoor
