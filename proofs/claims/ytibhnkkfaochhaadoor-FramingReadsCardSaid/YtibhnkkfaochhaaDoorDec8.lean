/-
  strconv.ParseUint at base 16; the size of a chunk's line.
-/
import Derived.Test.YtibhnkkfaochhaaDoorDec7
import Derived.Shelf.Strconv.ToError
import Derived.Shelf.Strconv.ToErrorRange
namespace Go.Proofs.YtibhnkkfaochhaaDoor.Dec
open Go.RowKit Go.Sep
open Go.Proofs.YtibhnkkfaochhaaDoor.Tok
set_option maxRecDepth 100000
set_option linter.unusedVariables false
set_option linter.unusedSimpArgs false

/-- the package variables that errors are read from -/
structure Vars (w : World) : Prop where
  s : ∃ ev, w.cell? ⟨2, 0, none⟩ = some ev ∧ (ev = .nilIface ∨ ∃ te pe, ev = .iface te pe)
  r : ∃ ev, w.cell? ⟨3, 0, none⟩ = some ev ∧ (ev = .nilIface ∨ ∃ te pe, ev = .iface te pe)
theorem Vars.grow {w w' : World} (h : Vars w) (hb : Below w.heap.size w w') : Vars w' := by
  obtain ⟨⟨e1, h1, k1⟩, ⟨e2, h2, k2⟩⟩ := h
  exact ⟨⟨e1, (hb.cell (p := ⟨2, 0, none⟩) (World.block_lt_of_cell? _ _ h1)).trans h1, k1⟩, ⟨e2, (hb.cell (p := ⟨3, 0, none⟩) (World.block_lt_of_cell? _ _ h2)).trans h2, k2⟩⟩
def SpuR (l : List UInt8) (n : Nat) (ev : Value) : Prop := (l ≠ [] ∧ puL 0 l = some n ∧ ev = .nilIface) ∨ ((l = [] ∨ puL 0 l = none) ∧ ∃ a, ev = .iface 98 (.pointer (some a)))
def SpuC (l : List UInt8) (w : World) (e : Ending) (w' : World) : Prop := ∃ n ev, e = .returned (.tuple #[.int .u64 (n : Nat), ev]) ∧ Hid (SpuR l n ev) ∧ Hid (Below w.heap.size w w')
theorem spu_calls (l : List UInt8) (hl : l.length ≤ 1048576) (hh : ∀ c ∈ l, isHex c = true) (w : World) (hv : Vars w) : Calls Tryd.prog 33 #[.string (sb l), .int .i64 16, .int .i64 32] w (SpuC l w) := by
  have hsz : (sb l).size ≤ 281474976710656 := by rw [sb_size]; omega
  have ES : Hid (∀ wq, Below w.heap.size w wq → Calls Tryd.prog 48 #[.string ⟨#[80, 97, 114, 115, 101, 85, 105, 110, 116]⟩, .string (sb l), .int .i64 16, .int .i64 32, errV 2] wq fun e w' => ∃ N, e = .returned (.iface 98 (.pointer (some ⟨N, 0, none⟩))) ∧ Below wq.heap.size wq w') := by
    intro wq hq
    obtain ⟨ev, h1, h2⟩ := (hv.grow hq).s
    refine (Go.Proofs.Any.strconv_toError_syntax Tryd.laysC245 ⟨#[80, 97, 114, 115, 101, 85, 105, 110, 116]⟩ (sb l) 16 32 ev wq hsz h1 h2).mono ?_
    rintro e w' ⟨N, h, -, -, b⟩
    exact ⟨N, h, b⟩
  have ER : Hid (∀ wq, Below w.heap.size w wq → Calls Tryd.prog 48 #[.string ⟨#[80, 97, 114, 115, 101, 85, 105, 110, 116]⟩, .string (sb l), .int .i64 16, .int .i64 32, errV 1] wq fun e w' => ∃ N, e = .returned (.iface 98 (.pointer (some ⟨N, 0, none⟩))) ∧ Below wq.heap.size wq w') := by
    intro wq hq
    obtain ⟨ev, h1, h2⟩ := (hv.grow hq).r
    refine (Go.Proofs.Any.strconv_toError_range Tryd.laysC245 ⟨#[80, 97, 114, 115, 101, 85, 105, 110, 116]⟩ (sb l) 16 32 ev wq hsz h1 h2).mono ?_
    rintro e w' ⟨N, h, -, -, b⟩
    exact ⟨N, h, b⟩
  unfold errV at ES ER
  by_cases h0 : l = []
  · subst h0
    have PC := Lib.hid (pu_empty w)
    unfold PuC errV at PC
    simp only [if_true] at PC
    clear hl hh hv hsz ER
    go_enter Tryd.func33, Tryd.ntmps33
    go_wp2_with fail
    refine (PC.out).mono ?_
    rintro e w1 ⟨rfl, b1⟩
    have TE := Lib.hid (ES.out w1 b1)
    have B1 := Lib.hid b1
    clear b1 PC ES
    go_wp2_with fail
    refine (TE.out).mono ?_
    rintro e w2 ⟨N, rfl, b2⟩
    have B2 : Hid (Below w.heap.size w w2) := B1.out.trans (b2.mono B1.out.size)
    clear b2 TE
    go_wp2_with fail
    go_ret2
    exact ⟨0, _, rfl, .inr ⟨.inl rfl, _, rfl⟩, B2.out⟩
  · have PC := Lib.hid (pu_calls l hl h0 hh w)
    rw [puN_eq] at PC
    have H0 := Lib.hid h0
    cases hp : puL 0 l with
    | some n =>
      rw [hp] at PC
      simp only at PC
      have HP := Lib.hid hp
      clear hl hh hv hsz ER ES hp h0
      go_enter Tryd.func33, Tryd.ntmps33
      go_wp2_with fail
      refine (PC.out).mono ?_
      rintro e w1 ⟨rfl, b1⟩
      have B1 := Lib.hid b1
      clear b1 PC
      go_wp2_with fail
      go_ret2
      exact ⟨n, _, rfl, .inl ⟨H0.out, HP.out, rfl⟩, B1.out⟩
    | none =>
      rw [hp] at PC
      simp only at PC
      unfold errV at PC
      have HP := Lib.hid hp
      clear hl hh hv hsz ES hp h0
      go_enter Tryd.func33, Tryd.ntmps33
      go_wp2_with fail
      refine (PC.out).mono ?_
      rintro e w1 ⟨rfl, b1⟩
      have TE := Lib.hid (ER.out w1 b1)
      have B1 := Lib.hid b1
      clear b1 PC ER
      go_wp2_with fail
      refine (TE.out).mono ?_
      rintro e w2 ⟨N, rfl, b2⟩
      have B2 : Hid (Below w.heap.size w w2) := B1.out.trans (b2.mono B1.out.size)
      clear b2 TE
      go_wp2_with fail
      go_ret2
      exact ⟨4294967295, _, rfl, .inr ⟨.inr HP.out, _, rfl⟩, B2.out⟩
#print axioms spu_calls
end Go.Proofs.YtibhnkkfaochhaaDoor.Dec
