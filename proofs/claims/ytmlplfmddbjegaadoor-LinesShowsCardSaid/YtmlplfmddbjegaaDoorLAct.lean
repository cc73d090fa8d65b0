/-
  Acts: how they lie in memory, and the law's own small functions over them. No condition.
-/
import Derived.Test.YtmlplfmddbjegaaDoorBase
import Derived.Test.YtmlplfmddbjegaaDoorProg
namespace Go.Proofs.YtmlplfmddbjegaaDoor
open Go.RowKit Go.Proofs.YtmlplfmddbjegaaDoorW.PrintWords

def kB : Kd Bs := Kd.slice 5 kU8
structure Ac where
  kind : Int
  session : Int
  keep : Int
  data : Bs
def kI : Kd Int := Kd.int .i64
def kAc : Kd Ac := Kd.iso (Kd.pair kI (Kd.pair kI (Kd.pair kI kB))) fun a => (a.kind, a.session, a.keep, a.data)
theorem kB_open {w : World} {x : Bs} {cs : List Value} (h : kB.K w x cs) : ∃ A c, cs = [.slice A x.length c] ∧ kU8.C w A x.length x := by
  obtain ⟨A, c, rfl, _, h⟩ := h
  exact ⟨A, c, rfl, h⟩
theorem kB_mkM {w : World} {base : Nat} {x : Bs} {v : Value} (h : kU8.R 5 w base Tr v x) : kB.M w base Tr x [v] := ⟨v, rfl, h⟩
theorem kAc_open {w : World} {a : Ac} {cs : List Value} (h : kAc.K w a cs) : ∃ A c, cs = [.int .i64 a.kind, .int .i64 a.session, .int .i64 a.keep, .slice A a.data.length c] ∧ kU8.C w A a.data.length a.data := by
  obtain ⟨_, _, rfl, h0, _, _, rfl, h1, _, _, rfl, h2, h3⟩ := h
  obtain rfl := h0
  obtain rfl := h1
  obtain rfl := h2
  obtain ⟨A, c, rfl, h⟩ := kB_open h3
  exact ⟨A, c, rfl, h⟩
theorem kAc_mkM {w : World} {base : Nat} {a : Ac} {v : Value} (h : kU8.R 5 w base Tr v a.data) : kAc.M w base Tr a [.int .i64 a.kind, .int .i64 a.session, .int .i64 a.keep, v] :=
  ⟨[.int .i64 a.kind], _, rfl, rfl, [.int .i64 a.session], _, rfl, rfl, [.int .i64 a.keep], _, rfl, rfl, kB_mkM h⟩
theorem I_u8 : Inf Tryd.prog 32 5 kU8 (.int .u8 0) 1 := ⟨by kernel_rfl, by kernel_rfl, rfl, by decide, by decide, by intro q h; cases h⟩
theorem kAc_E {q : Nat} (h : q ∈ kAc.E) : q = 5 := by simpa [kAc, Kd.iso, Kd.pair, kI, Kd.int, Kd.scalar, kB, Kd.slice, kU8] using h
theorem I_Ac : Inf Tryd.prog 22 34 kAc (.agg #[.int .i64 0, .int .i64 0, .int .i64 0, .slice none 0 0]) 48 :=
  ⟨by kernel_rfl, by kernel_rfl, rfl, by decide, by decide, fun q h => by rw [kAc_E h]; decide⟩
set_option maxHeartbeats 400000 in
theorem octets (A : Option Addr) (c : Nat) (l : Bs) (w : World) (H : kU8.C w A l.length l) (hl : l.length ≤ 140737488355328) :
    Calls Tryd.prog 11 #[.slice A l.length c] w fun e w' => ∃ v, e = .returned v ∧ kU8.R 5 w' w.heap.size Tr v l ∧ Fr w w' := by
  go_enter Tryd.func11, Tryd.ntmps11
  go_wp2_with (at_builtin; refine appB I_u8 rfl rfl (Kd.R_nil _ _ _ _ _) H rfl rfl (Fr.refl _) rfl (by simpa using hl) ?_; intro v1 w1 h1 h2 h3)
  go_ret
  exact ⟨v1, rfl, h1, h2⟩
/-- Element k of a row of acts that is read. -/
theorem ac_at {w : World} {A : Option Addr} {l : List Ac} (H : kAc.C w A l.length l) {k : Nat} (hk : k < l.length) :
    ∃ ad B c, A = some ad ∧ w.cell? (ad.add (k * 4)) = some (.int .i64 (l[k]).kind) ∧ w.cell? ⟨(ad.add (k * 4)).block, (ad.add (k * 4)).off + 1, none⟩ = some (.int .i64 (l[k]).session)
      ∧ w.cell? ⟨(ad.add (k * 4)).block, (ad.add (k * 4)).off + 2, none⟩ = some (.int .i64 (l[k]).keep) ∧ w.cell? ⟨(ad.add (k * 4)).block, (ad.add (k * 4)).off + 3, none⟩ = some (.slice B (l[k]).data.length c) ∧ kU8.C w B (l[k]).data.length (l[k]).data := by
  obtain ⟨ad, rfl, hc⟩ := H.2.2 (by omega)
  obtain ⟨cs, _, hp, hcell⟩ := hc k l[k] (List.getElem?_eq_getElem hk)
  obtain ⟨B, c, rfl, h1⟩ := kAc_open hp
  have e0 := hcell 0 _ rfl
  have e1 := hcell 1 _ rfl
  have e2 := hcell 2 _ rfl
  have e3 := hcell 3 _ rfl
  rw [show kAc.sz = 4 from rfl] at e0 e1 e2 e3
  rw [add_field _ _ _ (by decide)] at e1 e2 e3
  exact ⟨ad, B, c, rfl, e0, e1, e2, e3, h1⟩

set_option maxHeartbeats 1000000 in
set_option maxRecDepth 100000 in
theorem acts (A : Option Addr) (c : Nat) (l : List Ac) (w : World) (H : kAc.C w A l.length l) (hl : l.length * 48 ≤ 140737488355328) (hd : ∀ a, a ∈ l → a.data.length ≤ 140737488355328) :
    Calls Tryd.prog 5 #[.slice A l.length c] w fun e w' => ∃ v, e = .returned v ∧ kAc.R 34 w' w.heap.size Tr v l ∧ Fr w w' := by
  have hn : l.length ≤ 9223372036854775807 := H.2.1
  go_enter Tryd.func5, Tryd.ntmps5
  go_wp2
  go_loopw [3, 4] (fun o i wr => ∃ k : Nat, k ≤ l.length ∧ i = .int .i64 k ∧ kAc.R 34 wr w.heap.size Tr o (l.take k) ∧ Fr w wr) (fun _ i _ => l.length - (intOf i).toNat)
  case atStart => exact ⟨0, Nat.zero_le _, rfl, Kd.R_nil _ _ _ _ _, Fr.refl _⟩
  case round =>
    obtain ⟨k, hk, rfl, hr, hf⟩ := hrel
    by_cases hlt : k < l.length
    · obtain ⟨ad, B, cb, rfl, e0, e1, e2, e3, HB⟩ := ac_at (C_fr H hf) hlt
      have hdk := hd l[k] (List.getElem_mem hlt)
      go_wp2_with fail
      refine (octets _ _ _ _ (C_fr HB ((Fr.refl _).alloc _)) hdk).mono ?_
      rintro e w1 ⟨v, rfl, hv, hf1⟩
      obtain ⟨A1, c1, rfl⟩ := Kd.R_slice hv
      have hk1 := box_block hf1
      have g0 := blk_cell hk1 0
      have g1 := blk_cell hk1 1
      have g2 := blk_cell hk1 2
      have g3 := blk_cell hk1 3
      have z3 := blk_free hk1 3
      have hlt1 := blk_lt hk1
      have HK := Lib.hid hk1
      clear hk1 e0 e1 e2 e3
      simp at g0 g1 g2 g3
      have hs1 : Fr wr (w1.setCell ⟨wr.heap.size, 3, none⟩ (.slice A1 l[k].data.length c1)) := (((Fr.refl wr).alloc _).trans hf1).setCell (Nat.le_refl _) _
      have hc1 : Ch [34] 0 w1 (w1.setCell ⟨wr.heap.size, 3, none⟩ (.slice A1 l[k].data.length c1)) := (Ch.refl _ _ _).setCell HK.out (by simp) (Nat.zero_le _) _
      have hv1 : kU8.R 5 (w1.setCell ⟨wr.heap.size, 3, none⟩ (.slice A1 l[k].data.length c1)) w.heap.size Tr (.slice A1 l[k].data.length c1) l[k].data :=
        Kd.R_lower (R_ch hv hc1 (by decide)) (by have := hf.size; simp; omega)
      go_wp2_with (at_builtin; go_must (refine app I_Ac rfl rfl (R_fr hr hs1) (kAc_mkM (a := l[k]) hv1) rfl rfl (by simp) (hf.trans hs1) rfl (by rw [List.length_take]; omega) ?_); intro v2 w2 h1 h2 h3)
      go_roundw
      case rel => exact ⟨k + 1, hlt, rfl, by rw [List.take_succ_eq_append_getElem hlt]; exact h1, h2⟩
      case measure => simp [intOf]; omega
    · go_wp2
      go_ret
      refine ⟨u3, rfl, ?_, hf⟩
      rwa [List.take_of_length_le (by omega)] at hr
end Go.Proofs.YtmlplfmddbjegaaDoor
