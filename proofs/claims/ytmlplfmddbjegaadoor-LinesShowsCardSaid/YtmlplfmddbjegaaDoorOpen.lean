/-
  A law's argument, opened: what reads as data is a value of a kind, and no slice in it is longer than the row's reach allows. No condition.
-/
import Derived.Test.YtmlplfmddbjegaaDoorBase
import Derived.ProofKit
import Derived.Deep.Slices
import Derived.SizedLaws
namespace Go.Proofs.YtmlplfmddbjegaaDoor
open Go.RowKit Go.Proofs.YtmlplfmddbjegaaDoorW.PrintWords Go.ChangeShapes Go.WideShapes Go.ChangeAt Go.Deep

/-- What reads as data at type t is a value of kind d; Ok holds of it where all weights are within the reach. -/
def Opens {H : Type} (enc : TypeId × Value → H) (P : Program) (t : TypeId) {α : Type} (d : Kd α) (Ok : α → Prop) : Prop :=
  ∀ (W : World) (base : Nat) (sp : Nat → Bool) (held : Bool) (fuel : Nat) (cs : List Value) (x : DataW H × List MemPlace), DataW.trod enc P W base sp held fuel t cs = some x → ∃ v, d.K W v cs ∧ ((∀ n, n ∈ x.1.weights P t → n ≤ reachBytes) → Ok v)
section
variable {H : Type} {enc : TypeId × Value → H} {P : Program} {t : TypeId}
theorem opens_int (h : P.underlying t = some (.int .i64)) : Opens enc P t (Kd.int .i64) (fun n => -9223372036854775808 ≤ n ∧ n ≤ 9223372036854775807) := by
  intro W base sp held fuel cs x hx
  obtain ⟨n, rfl, _, hw⟩ := DataW.trod_int h hx
  refine ⟨n, rfl, fun _ => ?_⟩
  simp [Lit.wf, IntKind.min, IntKind.max, IntKind.signed, IntKind.bits] at hw
  omega
theorem opens_bool (h : P.underlying t = some .bool) : Opens enc P t Kd.bool (fun _ => True) := by
  intro W base sp held fuel cs x hx
  obtain ⟨b, rfl, _⟩ := DataW.trod_bool h hx
  exact ⟨b, rfl, fun _ => trivial⟩
theorem opens_u8 (h : P.underlying t = some (.int .u8)) : Opens enc P t kU8 (fun _ => True) := by
  intro W base sp held fuel cs x hx
  obtain ⟨n, rfl, _, hw⟩ := DataW.trod_int h hx
  simp [Lit.wf, IntKind.min, IntKind.max, IntKind.signed, IntKind.bits] at hw
  refine ⟨UInt8.ofNat n.toNat, ?_, fun _ => trivial⟩
  show [Value.int .u8 n] = [encB _]
  unfold encB
  congr 2
  simp
  omega
theorem opens_slice {α : Type} {d : Kd α} {Ok : α → Prop} {e : TypeId} {B : Nat} (ht : P.underlying t = some (.slice e)) (hc : P.cellsOf e = d.sz) (hB : P.bytesOf e = B) (he : Opens enc P e d Ok) :
    Opens enc P t (Kd.slice e d) (fun l => l.length * B ≤ reachBytes ∧ ∀ a, a ∈ l → Ok a) := by
  intro W base sp held fuel cs x hx
  rcases open_slice ht hx with ⟨rfl, rfl⟩ | ⟨a, len, cap, m, n, D, Pl, rfl, _, hl, hm, hmm, rfl, hel⟩
  · exact ⟨[], ⟨none, 0, rfl, Nat.le_refl _, rfl, by simp, fun h => absurd h (by simp)⟩, fun _ => ⟨by simp, fun a h => by cases h⟩⟩
  · have hlm : len ≤ m := by rw [hmm]; split <;> omega
    have hall : ∀ k, k ≤ len → ∃ l : List α, l.length = k ∧ ∀ i v, l[i]? = some v → ∃ cs', W.cells? base (a.add (i * P.cellsOf e)) (P.cellsOf e) = some cs' ∧ d.K W v cs' ∧ ((∀ n, n ∈ (D i).weights P e → n ≤ reachBytes) → Ok v) := by
      intro k
      induction k with
      | zero => exact fun _ => ⟨[], rfl, fun i v h => by simp at h⟩
      | succ k ih =>
        intro hk
        obtain ⟨l, hll, hl'⟩ := ih (by omega)
        obtain ⟨cs', h1, h2⟩ := hel k (by omega)
        obtain ⟨v, h3, h4⟩ := he W base sp held n cs' _ h2
        refine ⟨l ++ [v], by simp [hll], fun i u hu => ?_⟩
        rcases Nat.lt_or_ge i l.length with h | h
        · rw [List.getElem?_append_left h] at hu
          exact hl' i u hu
        · rw [List.getElem?_append_right h] at hu
          have hi : i = k := by
            have := (List.getElem?_eq_some_iff.1 hu).1
            simp at this
            omega
          subst hi
          have : u = v := by rw [hll] at hu; simpa using hu.symm
          subst this
          exact ⟨cs', h1, h3, h4⟩
    obtain ⟨l, hll, hel'⟩ := hall len (Nat.le_refl _)
    subst hll
    refine ⟨l, ⟨some a, cap, rfl, hl, rfl, by unfold maxLen at hm; omega, fun _ => ⟨a, rfl, fun j p hj => ?_⟩⟩, fun hw => ?_⟩
    · obtain ⟨cs', h1, h2, _⟩ := hel' j p hj
      obtain ⟨_, hlen, hcell⟩ := World.cells?_some h1
      refine ⟨cs', by rw [hlen, hc], h2, fun i u hu => ?_⟩
      have hi : i < P.cellsOf e := by have := (List.getElem?_eq_some_iff.1 hu).1; omega
      have := hcell i hi
      rw [Deep.add_add, hu] at this
      rw [← hc]
      exact this
    · simp only [DataW.weights, ht, List.mem_cons, List.mem_append] at hw
      refine ⟨?_, fun v hv => ?_⟩
      · have := hw _ (.inl rfl)
        simp only [List.length_map, List.length_range, hB] at this
        exact Nat.le_trans (Nat.mul_le_mul_right _ (Nat.le_add_right _ _)) this
      · obtain ⟨i, hi, hiv⟩ := List.getElem_of_mem hv
        obtain ⟨_, _, _, h4⟩ := hel' i v (by rw [List.getElem?_eq_getElem hi, hiv])
        refine h4 fun n hn => hw n (.inr (.inl ?_))
        have : ∀ (L : List (DataW H)) (x : DataW H), x ∈ L → ∀ n ∈ x.weights P e, n ∈ DataW.weightsAll P e L := by
          intro L
          induction L with
          | nil => intro x hx; cases hx
          | cons y L ih =>
            intro x hx n hn
            simp only [DataW.weightsAll, List.mem_append]
            rcases List.mem_cons.1 hx with rfl | hx
            · exact .inl hn
            · exact .inr (ih x hx n hn)
        exact this _ (D i) (List.mem_map.2 ⟨i, List.mem_range.2 hi, rfl⟩) n hn
end
end Go.Proofs.YtmlplfmddbjegaaDoor
