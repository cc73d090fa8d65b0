/-
  What all walks of this claim share: frames (Fr: what was there stays; Ch: only blocks of some types may change), bytes, events of append. No condition.
-/
import Derived.Test.YtmlplfmddbjegaaDoorWWords
import Derived.WalkLawsBesides
import Derived.WalkSpells
import Derived.LoopTactic
import Derived.StillTailTactics
import Derived.Outline
import Derived.Lib.Hide
import Derived.Deep.Light
import Derived.Lib.Bytealg
namespace Go.Proofs.YtmlplfmddbjegaaDoor
open Go.RowKit Go.Proofs.YtmlplfmddbjegaaDoorW.PrintWords

/-! ### frames -/
/-- What was there stays. -/
structure Fr (w w' : World) : Prop where
  out : Below w.heap.size w w'
theorem Fr.refl (w : World) : Fr w w := ⟨Below.refl _ _⟩
theorem Fr.trans {a b c : World} (h : Fr a b) (k : Fr b c) : Fr a c := ⟨h.out.trans (k.out.mono h.out.size)⟩
theorem Fr.alloc {a b : World} (h : Fr a b) (o : Obj) : Fr a (b.alloc o) := ⟨h.out.alloc h.out.size o⟩
theorem Fr.drew {a b : World} (h : Fr a b) : Fr a b.drew := ⟨h.out.drew⟩
theorem Fr.drewN {a b : World} (h : Fr a b) (n : Nat) : Fr a (b.drewN n) := ⟨pw_below_drewN h.out n⟩
theorem Fr.setCell {a b : World} (h : Fr a b) {p : Addr} (hp : a.heap.size ≤ p.block) (v : Value) : Fr a (b.setCell p v) := ⟨h.out.setCell hp v⟩
theorem Fr.size {a b : World} (h : Fr a b) : a.heap.size ≤ b.heap.size := h.out.size
theorem Fr.cell {a b : World} (h : Fr a b) {p : Addr} {v : Value} (hc : a.cell? p = some v) : b.cell? p = some v := pw_cell_below h.out hc
theorem Fr.block {a b : World} (h : Fr a b) {k : Nat} {o : Obj} (hk : a.heap[k]? = some o) : b.heap[k]? = some o := by
  rw [h.out.block k (Array.getElem?_eq_some_iff.1 hk).1]; exact hk
theorem Fr.frozen {a b : World} (h : Fr a b) {p : Addr} (hp : p.block < a.heap.size) : b.frozen? p = a.frozen? p := by
  unfold World.frozen?
  rw [h.out.block _ hp]

/-- A block that was new then is there still. -/
theorem box_block {W w1 : World} {cs : Array Value} {t : TypeId} (h : Fr (W.alloc (.cells cs t)) w1) : w1.heap[W.heap.size]? = some (.cells cs t (0, 0)) := h.block (heap_alloc_new W _)
theorem blk_cell {w : World} {k : Nat} {cs : Array Value} {t : TypeId} (h : w.heap[k]? = some (.cells cs t (0, 0))) (j : Nat) : w.cell? ⟨k, j, none⟩ = cs[j]? := by
  simp [World.cell?, h]
theorem blk_free {w : World} {k : Nat} {cs : Array Value} {t : TypeId} (h : w.heap[k]? = some (.cells cs t (0, 0))) (j : Nat) : w.frozen? ⟨k, j, none⟩ = false := by
  simp [World.frozen?, h]
theorem blk_lt {w : World} {k : Nat} {o : Obj} (h : w.heap[k]? = some o) : k < w.heap.size := (Array.getElem?_eq_some_iff.1 h).1
/-- A block whose cells are of one of these types. -/
def Ty (w : World) (T : List Nat) (k : Nat) : Prop := ∃ c t fr, w.heap[k]? = some (.cells c t fr) ∧ t ∈ T
/-- Only blocks of these types, from B on, may have changed. -/
structure Ch (T : List Nat) (B : Nat) (w w' : World) : Prop where
  os : w'.os = w.os
  tape : w'.tape = w.tape
  output : w'.output = w.output
  size : w.heap.size ≤ w'.heap.size
  keep : ∀ k, k < w.heap.size → (k < B ∨ ¬ Ty w T k) → w'.heap[k]? = w.heap[k]?
theorem Ch.refl (T : List Nat) (B : Nat) (w : World) : Ch T B w w := ⟨rfl, rfl, rfl, Nat.le_refl _, fun _ _ _ => rfl⟩
theorem Ch.trans {T : List Nat} {B : Nat} {a b c : World} (h : Ch T B a b) (k : Ch T B b c) : Ch T B a c :=
  ⟨k.os.trans h.os, k.tape.trans h.tape, k.output.trans h.output, Nat.le_trans h.size k.size, fun i hi hc => by
    have e := h.keep i hi hc
    rw [← e]
    refine k.keep i (Nat.lt_of_lt_of_le hi h.size) ?_
    rcases hc with hc | hc
    · exact .inl hc
    · refine .inr fun ⟨c, t, fr, hb, ht⟩ => hc ⟨c, t, fr, e ▸ hb, ht⟩⟩
theorem Ch.mono {T T' : List Nat} {B B' : Nat} {a b : World} (h : Ch T B a b) (hT : ∀ t, t ∈ T → t ∈ T') (hB : B' ≤ B) : Ch T' B' a b :=
  ⟨h.os, h.tape, h.output, h.size, fun i hi hc => h.keep i hi (by
    rcases hc with hc | hc
    · exact .inl (by omega)
    · exact .inr fun ⟨c, t, fr, hb, ht⟩ => hc ⟨c, t, fr, hb, hT t ht⟩)⟩
theorem Fr.ch {a b : World} (h : Fr a b) (T : List Nat) (B : Nat) : Ch T B a b := ⟨h.out.os, h.out.tape, h.out.output, h.out.size, fun i hi _ => h.out.block i hi⟩
theorem Ch.fr {B : Nat} {a b : World} (h : Ch [] B a b) : Fr a b := ⟨⟨h.os, h.tape, h.output, h.size, fun i hi => h.keep i hi (.inr fun ⟨_, _, _, _, ht⟩ => by cases ht)⟩⟩
theorem Ch.below {T : List Nat} {B : Nat} {a b : World} (h : Ch T B a b) (hB : B ≤ a.heap.size) : Below B a b := ⟨h.os, h.tape, h.output, h.size, fun i hi => h.keep i (by omega) (.inl hi)⟩
theorem Ch.of_grown {T : List Nat} {B : Nat} {a b : World} {row : Option Nat} (h : a.grownBy b row) (hr : ∀ k, row = some k → B ≤ k ∧ Ty a T k) : Ch T B a b :=
  ⟨h.os, h.tape, h.output, h.size, fun i hi hc => h.block i hi (fun e => by
    obtain ⟨h1, h2⟩ := hr i e.symm
    rcases hc with hc | hc
    · omega
    · exact hc h2)⟩
theorem Ch.blk {T : List Nat} {B : Nat} {a b : World} (h : Ch T B a b) {k t : Nat} {c : Array Value} {fr : Nat × Nat} (hk : a.heap[k]? = some (.cells c t fr)) (ht : t ∉ T) : b.heap[k]? = some (.cells c t fr) := by
  rw [h.keep k (Array.getElem?_eq_some_iff.1 hk).1 (.inr fun ⟨c', t', fr', hb, ht'⟩ => by
    rw [hk] at hb
    injection hb with hb
    injection hb with _ hb
    subst hb
    exact ht ht')]
  exact hk
theorem Ch.alloc {T : List Nat} {B : Nat} {a b : World} (h : Ch T B a b) (o : Obj) : Ch T B a (b.alloc o) := h.trans ((Fr.refl _).alloc o |>.ch T B)
theorem Ch.drew {T : List Nat} {B : Nat} {a b : World} (h : Ch T B a b) : Ch T B a b.drew := h.trans ((Fr.refl _).drew.ch T B)
theorem Ch.drewN {T : List Nat} {B : Nat} {a b : World} (h : Ch T B a b) (n : Nat) : Ch T B a (b.drewN n) := h.trans (((Fr.refl _).drewN n).ch T B)
/-- Fr of what changed in blocks that are new since. -/
theorem Fr.ch_new {T : List Nat} {B : Nat} {a b c : World} (h : Fr a b) (k : Ch T B b c) (hB : a.heap.size ≤ B) : Fr a c :=
  ⟨⟨k.os.trans h.out.os, k.tape.trans h.out.tape, k.output.trans h.out.output, Nat.le_trans h.size k.size, fun i hi => by
    rw [k.keep i (Nat.lt_of_lt_of_le hi h.size) (.inl (by omega))]; exact h.out.block i hi⟩⟩
theorem Ch.setCell {T : List Nat} {B : Nat} {a b : World} (h : Ch T B a b) {p : Addr} {c : Array Value} {t : Nat} {fr : Nat × Nat} (hb : b.heap[p.block]? = some (.cells c t fr)) (ht : t ∈ T) (hB : B ≤ p.block) (v : Value) : Ch T B a (b.setCell p v) := by
  refine h.trans ⟨rfl, rfl, rfl, by simp [World.setCell], fun i _ hc => ?_⟩
  refine Below.heap_setCell b p v i fun e => ?_
  subst e
  rcases hc with hc | hc
  · omega
  · exact hc ⟨c, t, fr, hb, ht⟩

theorem ret_int {k : IntKind} {a b : Int} (h : a = b) : Ending.returned (.int k a) = Ending.returned (.int k b) := by rw [h]
theorem ret_bool {a b : Bool} (h : a = b) : Ending.returned (.bool a) = Ending.returned (.bool b) := by rw [h]

/-! ### values that were made: nothing is said of which blocks -/
def Tr : Nat → Prop := fun _ => True
section
variable {α : Type} {d : Kd α} {e : Nat} {w w1 : World} {base : Nat} {v : Value} {x : α} {xs : List α} {cs : List Value}
theorem M_ch {T : List Nat} {B : Nat} (h : d.M w base Tr x cs) (k : Ch T B w w1) (hd : ∀ q, q ∈ d.E → q ∉ T) : d.M w1 base Tr x cs :=
  d.M_mono (fun _ _ => trivial) (d.M_move (ok := fun k => Tr k ∧ base ≤ k ∧ k < w.heap.size ∧ ∃ q, q ∈ d.E ∧ ∃ cells, w.heap[k]? = some (.cells cells q (0, 0))) (w1 := w1) (fun i hi => k.keep i hi.2.2.1 (.inr fun ⟨c, t, fr, hb, ht⟩ => by
    obtain ⟨_, _, _, q, hq, cells, hc⟩ := hi
    rw [hc] at hb
    injection hb with hb
    injection hb with _ hb
    subst hb
    exact hd q hq ht)) (d.M_bound h))
theorem R_ch {T : List Nat} {B : Nat} (h : d.R e w base Tr v xs) (k : Ch T B w w1) (hd : ∀ q, q ∈ e :: d.E → q ∉ T) : d.R e w1 base Tr v xs :=
  Kd.R_mono (Kd.R_move (w1 := w1) (Kd.R_bound h) (fun i hi => k.keep i hi.2.2.1 (.inr fun ⟨c, t, fr, hb, ht⟩ => by
    obtain ⟨_, _, _, q, hq, cells, hc⟩ := hi
    rw [hc] at hb
    injection hb with hb
    injection hb with _ hb
    subst hb
    exact hd q hq ht))) (fun _ _ => trivial)
theorem M_fr (h : d.M w base Tr x cs) (k : Fr w w1) : d.M w1 base Tr x cs := Kd.M_below h k.out
theorem R_fr (h : d.R e w base Tr v xs) (k : Fr w w1) : d.R e w1 base Tr v xs := Kd.R_below h k.out
theorem C_fr {A : Option Addr} {n : Nat} (h : d.C w A n xs) (k : Fr w w1) : d.C w1 A n xs := Kd.C_below h k.out
theorem K_fr (h : d.K w x cs) (k : Fr w w1) : d.K w1 x cs := d.K_below k.out h
theorem M_far (h : d.M w base Tr x cs) {e' : Nat} {v' : Value} {n : Nat} {inner : List Value} {sz b' : Nat} (ho : w.ownsRow b' e' sz v' n inner) (he : ∀ q, q ∈ d.E → q ≠ e') : d.M w base (fun k => Tr k ∧ some k ≠ v'.ownBlock) x cs :=
  d.M_mono (fun k hk => ⟨trivial, fun h => by
    obtain ⟨_, _, _, q, hq, cells, hc⟩ := hk
    obtain ⟨cells', hc'⟩ := own_typed ho k h.symm
    rw [hc] at hc'
    injection hc' with hc'
    injection hc' with _ hc'
    exact he q hq hc'⟩) (d.M_bound h)
end

/-! ### append of one element -/
/-- What is known of a slice type's elements. -/
structure Inf (P : Program) (t e : TypeId) {α : Type} (d : Kd α) (z : Value) (bytes : Nat) : Prop where
  ht : P.underlying t = some (.slice e)
  hinfo : (P.info? e).map (fun i => (i.zero, i.size, i.bytes)) = some (some z, d.sz, bytes)
  hz : z.cells.size = d.sz
  hs0 : 0 < d.sz
  hb0 : 0 < bytes
  he : ∀ q, q ∈ d.E → q ≠ e
section
variable {P : Program} {ops : Array Oper} {rest : List Oper} {o : Oper} {a : Act} {Q : Exit → Act → World → Prop} {α : Type}
theorem app {d : Kd α} {t e : TypeId} {z : Value} {bytes : Nat} (I : Inf P t e d z bytes) {w0 W : World} {base : Nat} {s x : Operand} (hgd : o.guard = none)
    (ho : o.op = .call { callee := .builtin .append, args := #[s, x], argTypes := #[t, t] }) {v : Value} {xs : List α} {p : α} {cs : List Value}
    (HO : d.R e W base Tr v xs) (hp : d.M W base Tr p cs) (hs : a.eval s = v) {b : Nat} (hx : a.eval x = .slice (some ⟨b, 0, none⟩) 1 1) (hbx : b = W.heap.size)
    (HB : Fr w0 W) (hb : base = w0.heap.size) (hl : (xs.length + 1) * bytes ≤ 140737488355328)
    (h : ∀ v1 w1, d.R e w1 base Tr v1 (xs ++ [p]) → Fr w0 w1 → Ch [e] base W w1 → wpList P ops Q rest (a.put o.dst v1) w1) :
    wpList P ops Q (o :: rest) a (W.alloc (.cells cs.toArray e)) := by
  subst hb
  subst hbx
  obtain ⟨inner, hown⟩ := Kd.R_own HO
  refine Kd.R_append d w0.heap.size hgd s x t e z bytes ho I.ht I.hinfo I.hz I.hs0 I.hb0 v xs p cs Tr (fun k => Tr k ∧ some k ≠ v.ownBlock) hs hx (M_far hp hown I.he) (fun _ h => h) (fun _ _ => trivial) HO HB.out HB.size hl ?_
  intro v1 w1 h1 h2 h3 _
  refine h v1 w1 h1 ⟨h2⟩ (Ch.of_grown h3 fun k hk => ?_)
  obtain ⟨cells, hc⟩ := own_typed hown k hk
  exact ⟨own_base hown k hk, cells, e, (0, 0), hc, List.mem_singleton.2 rfl⟩
end

/-! ### bytes -/
abbrev Bs := List UInt8
def encB (b : UInt8) : Value := .int .u8 (b.toNat : Int)
def kU8 : Kd UInt8 := Kd.scalar encB (fun _ => rfl)
theorem add_add1 (a : Addr) (n : Nat) : (a.add 1).add n = a.add (n + 1) := by
  unfold Addr.add
  split <;> simp_all
  omega
/-- What the model's own byte reader reads of a slice. -/
theorem run_loadBytes (P : Program) (w : World) : ∀ (l : Bs) (a : Addr) (acc : ByteArray), (∀ j b, l[j]? = some b → w.cell? (a.add j) = some (encB b)) →
    (Extern.Bytes.loadBytes a l.length acc).run P w = .ok ⟨acc.data ++ l.toArray⟩ w
  | [], a, acc, _ => by simp [Extern.Bytes.loadBytes, Sem.run_pure]
  | b :: l, a, acc, h => by
    have h0 := h 0 b rfl
    have ha : a.add 0 = a := by simp [Addr.add]
    rw [ha] at h0
    have ih := run_loadBytes P w l (a.add 1) (acc.push b) (fun j x hx => by rw [add_add1]; exact h (j + 1) x (by simpa using hx))
    rw [List.length_cons]
    unfold Extern.Bytes.loadBytes
    rw [Sem.run_bind]
    have hl : (load a).run P w = .ok (encB b) w := by simp [load, Sem.run, h0]
    rw [hl]
    simp only [Result.andThen, encB]
    have hb : (Int.toNat (b.toNat : Int)).toUInt8 = b := by simp
    rw [hb, ih]
    simp
theorem C_cells {w : World} {A : Option Addr} {l : Bs} (h : kU8.C w A l.length l) (h0 : 0 < l.length) : ∃ ad, A = some ad ∧ ∀ j b, l[j]? = some b → w.cell? (ad.add j) = some (encB b) := by
  obtain ⟨ad, rfl, hc⟩ := h.2.2 h0
  refine ⟨ad, rfl, fun j b hj => ?_⟩
  obtain ⟨cs, _, hk, hcell⟩ := hc j b hj
  have hk' : cs = [encB b] := hk
  have := hcell 0 (encB b) (by rw [hk']; rfl)
  simpa [kU8, Kd.scalar] using this
theorem run_bytesOf (P : Program) {w : World} {A : Option Addr} {c : Nat} {l : Bs} (h : kU8.C w A l.length l) :
    (Extern.Bytes.bytesOf (.slice A l.length c)).run P w = .ok ⟨l.toArray⟩ w := by
  rcases A with _ | a
  · have h0 : l = [] := by
      rcases l with _ | ⟨b, l⟩
      · rfl
      · obtain ⟨ad, h, _⟩ := C_cells h (by simp)
        cases h
    subst h0
    rfl
  · rcases Nat.eq_zero_or_pos l.length with h0 | h0
    · have h0' : l = [] := List.eq_nil_of_length_eq_zero h0
      subst h0'
      rfl
    · obtain ⟨ad, he, hc⟩ := C_cells h h0
      obtain rfl : ad = a := by injection he with he; exact he.symm
      have := run_loadBytes P w l ad .empty hc
      show (Extern.Bytes.loadBytes ad l.length .empty).run P w = _
      rw [this]
      simp [ByteArray.empty, ByteArray.emptyWithCapacity]
      rfl
/-- The bytes of a string. -/
def str (l : Bs) : ByteArray := ⟨l.toArray⟩
theorem str_list (l : Bs) : (str l).data.toList = l := by simp [str]
theorem C_int {w : World} {A : Option Addr} {l : Bs} (h : kU8.C w A l.length l) : (Kd.int .u8).C w A l.length (l.map fun b => (b.toNat : Int)) := by
  refine ⟨by simp, h.2.1, fun h0 => ?_⟩
  obtain ⟨ad, rfl, hc⟩ := h.2.2 h0
  refine ⟨ad, rfl, fun j p hj => ?_⟩
  rw [List.getElem?_map] at hj
  obtain ⟨b, hb, rfl⟩ := Option.map_eq_some_iff.1 hj
  obtain ⟨cs, hs, hk, hcell⟩ := hc j b hb
  exact ⟨cs, hs, hk, hcell⟩
theorem C_string {P : Program} {w : World} {src dst e : TypeId} {A : Option Addr} {c : Nat} {l : Bs} (hs : P.underlying src = some (.slice e)) (he : P.underlying e = some (.int .u8)) (hd : P.underlying dst = some .string)
    (h : kU8.C w A l.length l) : (convert src dst (.slice A l.length c)).run P w = .ok (.string (str l)) w := by
  rw [Kd.C_string hs he hd (C_int h)]
  unfold strOfNums str
  congr 3
  rw [List.map_map]
  conv => rhs; rw [← List.map_id l]
  congr 1
  apply List.map_congr_left
  intro b _
  simp
/-- string([]byte{x}). -/
theorem one_string {P : Program} {src dst e : TypeId} (hs : P.underlying src = some (.slice e)) (he : P.underlying e = some (.int .u8)) (hd : P.underlying dst = some .string) {W : World} {k : Nat} {t : TypeId} {fr : Nat × Nat} (x : UInt8)
    (h : W.heap[k]? = some (.cells #[.int .u8 (x.toNat : Int)] t fr)) : (convert src dst (.slice (some ⟨k, 0, none⟩) 1 1)).run P W = .ok (.string (str [x])) W := by
  refine C_string (l := [x]) hs he hd ⟨rfl, by simp, fun _ => ⟨_, rfl, fun j p hj => ?_⟩⟩
  obtain ⟨rfl, rfl⟩ : j = 0 ∧ p = x := by
    cases j with
    | zero => exact ⟨rfl, by simpa using hj.symm⟩
    | succ j => simp at hj
  refine ⟨[encB p], rfl, rfl, fun i u hi => ?_⟩
  obtain ⟨rfl, rfl⟩ : i = 0 ∧ u = encB p := by
    cases i with
    | zero => exact ⟨rfl, by simpa using hi.symm⟩
    | succ i => simp at hi
  simp [World.cell?, h, Addr.add, encB]
theorem add_str (a b : Bs) : str a ++ str b = str (a ++ b) := by
  apply ByteArray.ext
  rw [ByteArray.data_append]
  simp [str]
theorem str_size (a : Bs) : (str a).size = a.length := by simp [str, ByteArray.size]
section
variable {P : Program} {ops : Array Oper} {rest : List Oper} {o : Oper} {a : Act} {Q : Exit → Act → World → Prop}
/-- append(v, ys...) of bytes: v a row of one's own, ys one that is read. -/
theorem appB {t e : TypeId} {z : Value} {bytes : Nat} (I : Inf P t e kU8 z bytes) {w0 W : World} {base : Nat} {s x : Operand} (hgd : o.guard = none)
    (ho : o.op = .call { callee := .builtin .append, args := #[s, x], argTypes := #[t, t] }) {v : Value} {xs ys : Bs} {A : Option Addr} {c : Nat}
    (HO : kU8.R e W base Tr v xs) (HR : kU8.C W A ys.length ys) (hs : a.eval s = v) (hx : a.eval x = .slice A ys.length c)
    (HB : Fr w0 W) (hb : base = w0.heap.size) (hl : (xs.length + ys.length) * bytes ≤ 140737488355328)
    (h : ∀ v1 w1, kU8.R e w1 base Tr v1 (xs ++ ys) → Fr w0 w1 → Ch [e] base W w1 → wpList P ops Q rest (a.put o.dst v1) w1) :
    wpList P ops Q (o :: rest) a W := by
  subst hb
  obtain ⟨inner, hown⟩ := Kd.R_own HO
  refine Kd.R_append_rows kU8 (Rr := kU8.K W) w0.heap.size hgd s x t e z bytes ho I.ht I.hinfo I.hz I.hs0 I.hb0 v xs ys A ys.length c Tr (fun k => Tr k ∧ some k ≠ v.ownBlock) hs hx HO HR (fun _ _ hk => hk) (fun _ h => h) (fun _ _ => trivial) HB.out HB.size hl ?_
  intro v1 w1 h1 h2 h3 _
  refine h v1 w1 h1 ⟨h2⟩ (Ch.of_grown h3 fun k hk => ?_)
  obtain ⟨cells, hc⟩ := own_typed hown k hk
  exact ⟨own_base hown k hk, cells, e, (0, 0), hc, List.mem_singleton.2 rfl⟩
end
section
variable {P : Program} {ops : Array Oper} {o : Oper} {a : Act} {Q : Exit → Act → World → Prop} {Kc : Act → World → Prop}
/-- The same as a step of a region that draws. -/
theorem appB_step {t e : TypeId} {z : Value} {bytes : Nat} (I : Inf P t e kU8 z bytes) {w0 W : World} {base : Nat} {s x : Operand} (hw : Region.wanted o (yielded ops a.tmps) = true)
    (ho : o.op = .call { callee := .builtin .append, args := #[s, x], argTypes := #[t, t] }) {v : Value} {xs ys : Bs} {A : Option Addr} {c : Nat}
    (HO : kU8.R e W base Tr v xs) (HR : kU8.C W A ys.length ys) (hs : a.eval s = v) (hx : a.eval x = .slice A ys.length c)
    (HB : Fr w0 W) (hb : base = w0.heap.size) (hl : (xs.length + ys.length) * bytes ≤ 140737488355328)
    (h : ∀ v1 w1, kU8.R e w1 base Tr v1 (xs ++ ys) → Fr w0 w1 → Ch [e] base W w1 → Kc (a.put o.dst v1) w1) :
    if Region.wanted o (yielded ops a.tmps) = true then Oper.wp P o a W Kc Q else Kc (a.put o.dst undef) W := by
  subst hb
  obtain ⟨inner, hown⟩ := Kd.R_own HO
  refine Kd.R_append_rows_step kU8 (Rr := kU8.K W) w0.heap.size hw s x t e z bytes ho I.ht I.hinfo I.hz I.hs0 I.hb0 v xs ys A ys.length c Tr (fun k => Tr k ∧ some k ≠ v.ownBlock) hs hx HO HR (fun _ _ hk => hk) (fun _ h => h) (fun _ _ => trivial) HB.out HB.size hl ?_
  intro v1 w1 h1 h2 h3 _
  refine h v1 w1 h1 ⟨h2⟩ (Ch.of_grown h3 fun k hk => ?_)
  obtain ⟨cells, hc⟩ := own_typed hown k hk
  exact ⟨own_base hown k hk, cells, e, (0, 0), hc, List.mem_singleton.2 rfl⟩
theorem app_step {α : Type} {d : Kd α} {t e : TypeId} {z : Value} {bytes : Nat} (I : Inf P t e d z bytes) {w0 W : World} {base : Nat} {s x : Operand} (hw : Region.wanted o (yielded ops a.tmps) = true)
    (ho : o.op = .call { callee := .builtin .append, args := #[s, x], argTypes := #[t, t] }) {v : Value} {xs : List α} {p : α} {cs : List Value}
    (HO : d.R e W base Tr v xs) (hp : d.M W base Tr p cs) (hs : a.eval s = v) {b : Nat} (hx : a.eval x = .slice (some ⟨b, 0, none⟩) 1 1) (hbx : b = W.heap.size)
    (HB : Fr w0 W) (hb : base = w0.heap.size) (hl : (xs.length + 1) * bytes ≤ 140737488355328)
    (h : ∀ v1 w1, d.R e w1 base Tr v1 (xs ++ [p]) → Fr w0 w1 → Ch [e] base W w1 → Kc (a.put o.dst v1) w1) :
    if Region.wanted o (yielded ops a.tmps) = true then Oper.wp P o a (W.alloc (.cells cs.toArray e)) Kc Q else Kc (a.put o.dst undef) (W.alloc (.cells cs.toArray e)) := by
  subst hb
  subst hbx
  obtain ⟨inner, hown⟩ := Kd.R_own HO
  refine Kd.R_append_step d w0.heap.size hw s x t e z bytes ho I.ht I.hinfo I.hz I.hs0 I.hb0 v xs p cs Tr (fun k => Tr k ∧ some k ≠ v.ownBlock) hs hx (M_far hp hown I.he) (fun _ h => h) (fun _ _ => trivial) HO HB.out HB.size hl ?_
  intro v1 w1 h1 h2 h3 _
  refine h v1 w1 h1 ⟨h2⟩ (Ch.of_grown h3 fun k hk => ?_)
  obtain ⟨cells, hc⟩ := own_typed hown k hk
  exact ⟨own_base hown k hk, cells, e, (0, 0), hc, List.mem_singleton.2 rfl⟩
end
theorem R_own8 {e : TypeId} {w : World} {base : Nat} {v : Value} {l : Bs} (h : kU8.R e w base Tr v l) : w.ownsRow base e 1 v l.length (l.map encB) := Kd.own_of_R h
theorem R_of8 {e : TypeId} {w : World} {base : Nat} {v : Value} {l : Bs} (h : w.ownsRow base e 1 v l.length (l.map encB)) : kU8.R e w base Tr v l := Kd.R_of_own h (fun _ _ => trivial)
theorem C_block {w : World} {k : Nat} {l : Bs} {c : Array Value} {t : TypeId} {fr : Nat × Nat} (h : w.heap[k]? = some (.cells c t fr)) (hc : c = (l.map encB).toArray) (hl : l.length ≤ 9223372036854775807) : kU8.C w (some ⟨k, 0, none⟩) l.length l := by
  subst hc
  refine ⟨rfl, hl, fun _ => ⟨_, rfl, fun j p hj => ⟨[encB p], rfl, rfl, fun i u hi => ?_⟩⟩⟩
  obtain ⟨rfl, rfl⟩ : i = 0 ∧ u = encB p := by
    cases i with
    | zero => exact ⟨rfl, by simpa using hi.symm⟩
    | succ i => simp at hi
  rw [show kU8.sz = 1 from rfl, add_plain]
  simp [World.cell?, h, hj]
section
variable {P : Program} {ops : Array Oper} {rest : List Oper} {o : Oper} {a : Act} {Q : Exit → Act → World → Prop}
/-- append(v, s...) of bytes: v a row of one's own, s a string. -/
theorem appS {t e u : TypeId} {z : Value} {bytes : Nat} (I : Inf P t e kU8 z bytes) (hz : z = .int .u8 0) (hb1 : bytes = 1) (hu : P.underlying u = some .string) {w0 W : World} {base : Nat} {s x : Operand} (hgd : o.guard = none)
    (ho : o.op = .call { callee := .builtin .append, args := #[s, x], argTypes := #[t, u] }) {v : Value} {xs : Bs} {y : ByteArray}
    (HO : kU8.R e W base Tr v xs) (hs : a.eval s = v) (hx : a.eval x = .string y)
    (HB : Fr w0 W) (hb : base = w0.heap.size) (hl : xs.length + y.size ≤ 140737488355328)
    (h : ∀ v1 w1, kU8.R e w1 base Tr v1 (xs ++ y.data.toList) → Fr w0 w1 → Ch [e] base W w1 → wpList P ops Q rest (a.put o.dst v1) w1) :
    wpList P ops Q (o :: rest) a W := by
  subst hb
  subst hz
  subst hb1
  obtain ⟨i0, hi, hzz⟩ := Option.map_eq_some_iff.1 I.hinfo
  simp only [Prod.mk.injEq] at hzz
  obtain ⟨hz0, hz1, hz2⟩ := hzz
  have hown := R_own8 HO
  refine Lib.wpList_append_own_string W hgd s x t u ho w0.heap.size e i0 I.ht hu hi hz0 hz1 hz2 v xs.length _ hs hown y hx (by unfold maxLen; omega) hl HB.size ?_
  intro v1 w1 h1 h2 _
  have e1 : xs.map encB ++ Lib.strCells y = (xs ++ y.data.toList).map encB := by simp [Lib.strCells, encB]
  have e2 : xs.length + y.size = (xs ++ y.data.toList).length := by rw [List.length_append, Array.length_toList]; rfl
  rw [e1, e2] at h1
  refine h v1 w1 (R_of8 h1) ⟨HB.out.grown h2 HB.size (own_base hown)⟩ (Ch.of_grown h2 fun k hk => ?_)
  obtain ⟨cells, hc⟩ := own_typed hown k hk
  exact ⟨own_base hown k hk, cells, e, (0, 0), hc, List.mem_singleton.2 rfl⟩
end
theorem run_native_compare (P : Program) {w : World} {A A' : Option Addr} {c c' : Nat} {l l' : Bs} (h : kU8.C w A l.length l) (h' : kU8.C w A' l'.length l') :
    (Extern.BytealgCompare.compare #[.slice A l.length c, .slice A' l'.length c']).run P w = .ok (.int .i64 (Lib.compareBytes l l')) w := by
  show Sem.run P (do pure (goInt (Extern.BytealgCompare.cmp (← Extern.Bytes.bytesOf (.slice A l.length c)) (← Extern.Bytes.bytesOf (.slice A' l'.length c'))))) w = _
  simp only [Sem.run_bind, run_bytesOf P h, run_bytesOf P h', Result.andThen, Sem.run_pure]
  rw [Lib.cmp_eq]
  rfl
end Go.Proofs.YtmlplfmddbjegaaDoor
