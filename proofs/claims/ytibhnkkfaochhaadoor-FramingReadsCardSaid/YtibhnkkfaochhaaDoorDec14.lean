/-
  Layer 6: what the decoders' laws share.
-/
import Derived.Test.YtibhnkkfaochhaaDoorDec13
namespace Go.Proofs.YtibhnkkfaochhaaDoor.Dec
open Go.RowKit Go.Sep
open Go.Proofs.YtibhnkkfaochhaaDoor.Tok
set_option maxRecDepth 100000
set_option linter.unusedVariables false
set_option linter.unusedSimpArgs false

theorem new_err (k n : Int) (hr : newR k n ≠ 0) (F : Asr) (w : World) (hw : Holds w F) : Calls Tryd.prog 6 #[.int .i64 k, .int .i64 n] w fun e w' => e = .returned (.tuple #[.pointer none, .int .i64 (newR k n)]) ∧ Below w.heap.size w w' := by
  refine (new_calls k n F w hw).mono ?_
  rintro e w' (⟨-, h⟩ | ⟨h, -⟩)
  · exact h
  · exact absurd h hr
def NewOk (S : DS) (F : Asr) (w : World) (e : Ending) (w' : World) : Prop := ∃ d, e = .returned (.tuple #[.pointer (some ⟨d, 0, none⟩), .int .i64 0]) ∧ Holds w' (decA d S [] * F) ∧ Sm w w'
theorem new_fine (k n : Int) (hr : newR k n = 0) (F : Asr) (w : World) (hw : Holds w F) : Calls Tryd.prog 6 #[.int .i64 k, .int .i64 n] w (NewOk (newD k.toNat n.toNat) F w) := by
  refine (new_calls k n F w hw).mono ?_
  rintro e w' (⟨h, -⟩ | ⟨-, -, -, -, -, -, d, h⟩)
  · exact absurd hr h
  · exact ⟨d, h⟩
theorem newR_ok (k n : Int) (hr : newR k n = 0) : OkS (newD k.toNat n.toNat) := by
  unfold newR at hr
  split at hr
  · cases hr
  · split at hr
    · cases hr
    · exact newD_ok _ _ (by omega) (by omega) (by omega)
/-- an argument of bytes -/
structure ByS (w : World) (a : Option Addr) (n c : Nat) (b : List UInt8) : Prop where
  len : b.length = n
  cap : n ≤ c
  cell : 0 < n → ∃ gb ob, a = some ⟨gb, ob, none⟩ ∧ ∀ j (hj : j < b.length), w.cell? ⟨gb, ob + j, none⟩ = some (.int .u8 (b[j].toNat : Int))
theorem bys_row {w : World} {a : Option Addr} {len cap : Nat} {zs : List Int} (h : IsRow .u8 w a len cap zs) : ∃ b, ByS w a len cap b := by
  rcases h with ⟨rfl, rfl, rfl, rfl⟩ | ⟨x, rfl, h1, h2, h3, h4, h5⟩
  · exact ⟨[], rfl, Nat.le_refl _, fun h => absurd h (by omega)⟩
  · refine ⟨(zs.take len).map fun z => UInt8.ofNat z.toNat, by simp; omega, h1, fun h => ?_⟩
    obtain ⟨g, o, s⟩ := x
    have c0 := h4 0 (by omega)
    have hs := World.cell?_spot c0
    simp only [Addr.add, if_pos] at hs
    subst hs
    refine ⟨g, o, rfl, fun j hj => ?_⟩
    simp at hj
    have := h4 j (by omega)
    rw [Addr.add_lit] at this
    rw [this]
    have hw := h5 (zs[j]'(by omega)) (List.getElem_mem _)
    have hb : 0 ≤ zs[j]'(by omega) ∧ zs[j]'(by omega) < 256 := by
      have := hw
      simp [Lit.wf, show IntKind.u8.min = 0 from rfl, show IntKind.u8.max = 255 from rfl] at this
      omega
    simp only [List.getElem_map, List.getElem_take, List.getD, List.getElem?_eq_getElem (show j < zs.length by omega), Option.getD_some]
    congr 2
    rw [UInt8.toNat_ofNat']
    omega
theorem bys_cut {w : World} {a : Option Addr} {len cap : Nat} {b : List UInt8} (h : ByS w a len cap b) (m c : Nat) (hm : m ≤ len) (hc : m ≤ c) : ByS w a m c (b.take m) := by
  refine ⟨by simp [h.len]; omega, hc, fun h0 => ?_⟩
  obtain ⟨g, o, e, k⟩ := h.cell (by omega)
  refine ⟨g, o, e, fun j hj => ?_⟩
  simp at hj
  rw [k j (by omega)]
  simp
theorem bys_src {w0 : World} {a : Option Addr} {len cap : Nat} {b : List UInt8} (h : ByS w0 a len cap b) (F : Asr) : SrcB (F * all w0) a len b := by
  refine ⟨h.len, fun h0 => ?_⟩
  obtain ⟨g, o, e, k⟩ := h.cell h0
  refine ⟨g, o, e, fun A wq hq j hj => ?_⟩
  exact all_cell (A := A * F) (hq.eqv (star_assoc _ _ _).symm) (k j hj)
theorem bys_part {w : World} {g o n c : Nat} {b : List UInt8} (h : ByS w (some ⟨g, o, none⟩) n c b) (i k c2 : Nat) (hi : i + k ≤ n) (hk : 0 < k) (hc : k ≤ c2) : ByS w (some ⟨g, o + i, none⟩) k c2 ((b.drop i).take k) := by
  refine ⟨by simp [h.len]; omega, hc, fun h0 => ?_⟩
  obtain ⟨g2, o2, e, q⟩ := h.cell (by omega)
  simp only [Option.some.injEq, Addr.mk.injEq, and_true] at e
  obtain ⟨rfl, rfl⟩ := e
  refine ⟨g, o + i, rfl, fun j hj => ?_⟩
  simp at hj
  have := q (i + j) (by rw [h.len]; omega)
  rw [show o + i + j = o + (i + j) by omega, this]
  simp
theorem src_nil (F : Asr) : SrcB F none 0 [] := ⟨rfl, fun h => absurd h (by omega)⟩
/-- the conversion of a row of bytes -/
theorem conv_rowA {w : World} {v : Value} {l : List UInt8} {F : Asr} (h : Holds w (rowA 5 1 v l.length (bc l) * F)) : (convert 22 9 v).run Tryd.prog w = .ok (.string (sb l)) w := by
  rcases Nat.eq_zero_or_pos l.length with h0 | h0
  · have hl := List.eq_nil_of_length_eq_zero h0
    subst hl
    obtain ⟨ao, cap, rfl, -⟩ := rowA_slice h
    cases ao with
    | none =>
      rw [run_convert_bytes_nil w 22 5 Tryd.underlying22 Tryd.underlying5 _ _ 9 Tryd.underlying9]
      rfl
    | some x => exact run_convert_bytes_back w 22 9 5 x cap [] Tryd.underlying22 Tryd.underlying5 Tryd.underlying9 (fun j hj => by simp at hj)
  · obtain ⟨g, cp, rfl, -, -, hc, -⟩ := rowA_cell h h0
    exact run_convert_bytes_back w 22 9 5 ⟨g, 0, none⟩ cp l Tryd.underlying22 Tryd.underlying5 Tryd.underlying9 (fun j hj => by
      rw [Addr.add_lit, Nat.zero_add, hc j (by omega)]
      simp [bc, hj])
theorem conv_blk {w : World} {g c : Nat} {l : List UInt8} {F : Asr} (h : Holds w (pts g (.cells (bc l).toArray 5 (0, 0)) * F)) : (convert 22 9 (.slice (some ⟨g, 0, none⟩) l.length c)).run Tryd.prog w = .ok (.string (sb l)) w := by
  exact run_convert_bytes_back w 22 9 5 ⟨g, 0, none⟩ c l Tryd.underlying22 Tryd.underlying5 Tryd.underlying9 (fun j hj => by
      rw [Addr.add_lit, Nat.zero_add, h.cell]
      simp [bc, hj])
theorem blk_cell {w : World} {g : Nat} {l : List UInt8} {F : Asr} (h : Holds w (pts g (.cells (bc l).toArray 5 (0, 0)) * F)) (j : Nat) (u : Value) (hu : (bc l)[j]? = some u) : w.cell? ((⟨g, 0, none⟩ : Addr).add j) = some u := by
  rw [Addr.add_lit, Nat.zero_add, h.cell]
  simpa using hu
theorem bc_app (a b : List UInt8) : bc a ++ bc b = bc (a ++ b) := by simp [bc]
theorem bc_one {l : List UInt8} : ∀ u ∈ bc l, u.oneCell' = true := by
  intro u hu
  simp [bc] at hu
  obtain ⟨x, -, rfl⟩ := hu
  rfl
def FeedX (d : Nat) (R : DS × List UInt8 × Nat) (F : Asr) (w : World) (e : Ending) (w' : World) : Prop :=
  ∃ go, e = .returned (.tuple #[.slice (some ⟨go, 0, none⟩) R.2.1.length R.2.1.length, .int .i64 R.2.2, .bool R.1.done, .int .i64 R.1.e]) ∧
    Holds w' (pts go (.cells (bc R.2.1).toArray 5 (0, 0)) * (decA d R.1 R.2.1 * F)) ∧ Sm w w'
theorem FeedC1 (d : Nat) (S : DS) (b : List UInt8) (F : Asr) (w : World) : FeedC d S b F w = FeedX d (feedL S b) F w := rfl
#print axioms bys_part
#print axioms conv_rowA
end Go.Proofs.YtibhnkkfaochhaaDoor.Dec
