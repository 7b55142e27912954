/-
  FramingChunks: a chunk, the code's and the document's.
-/
import Derived.Test.YtibhnkkfaochhaaDoorFrBits
import Derived.Test.YtibhnkkfaochhaaDoorReg
namespace Go.Proofs.YtibhnkkfaochhaaDoor.Fr
open Go.RowKit Go.Sep
open Go.Lib (strCells strCells_length)
set_option maxRecDepth 100000
set_option linter.unusedVariables false
set_option linter.unusedSimpArgs false

def ints (s : ByteArray) : List Int := s.data.toList.map fun b => (b.toNat : Int)
theorem strCells_u8s (s : ByteArray) : strCells s = u8s (ints s) := by simp [strCells, u8s, ints]
theorem ints_len (s : ByteArray) : (ints s).length = s.size := by simp [ints]
theorem u8s_append (l k : List Int) : u8s (l ++ k) = u8s l ++ u8s k := by simp [u8s]
def RowC (L : List Int) (F : Asr) (w : World) (e : Ending) (w' : World) : Prop := ∃ v, e = .returned v ∧ Holds w' (rowA 5 1 v L.length (u8s L) * F) ∧ Sm w w'
theorem iappend (u : Nat) (h0 : 0 < u) (h9 : u < 65536) (F : Asr) (w : World) (hT : w.cell? ⟨5, 15, none⟩ = some (.int .u8 4)) (hw : Holds w F) :
    Calls Tryd.prog 30 #[.slice none 0 0, .int .u64 u, .int .i64 16] w (RowC (hexL 4 u) F w) := by
  have FB := Lib.hid (fbits u h0 h9 F w hT hw)
  clear hw hT
  go_enter Tryd.func30, Tryd.ntmps30
  go_wp2_with fail
  refine (FB.out).mono ?_
  rintro e w' ⟨v, rfl, h1, s1⟩
  go_wp2_with fail
  go_ret
  exact ⟨_, rfl, h1, s1⟩
theorem sappend (u : Nat) (h0 : 0 < u) (h9 : u < 65536) (F : Asr) (w : World) (hT : w.cell? ⟨5, 15, none⟩ = some (.int .u8 4)) (hw : Holds w F) :
    Calls Tryd.prog 23 #[.slice none 0 0, .int .u64 u, .int .i64 16] w (RowC (hexL 4 u) F w) := by
  have FB := Lib.hid (iappend u h0 h9 F w hT hw)
  clear hw hT
  go_enter Tryd.func23, Tryd.ntmps23
  go_wp2_with fail
  refine (FB.out).mono ?_
  rintro e w' ⟨v, rfl, h1, s1⟩
  go_wp2_with fail
  go_ret
  exact ⟨_, rfl, h1, s1⟩
theorem chunk_calls (ad : Addr) (n c : Nat) (bs : List Int) (hn : bs.length = n) (n0 : 0 < n) (n9 : n ≤ 5000) (F : Asr) (w : World)
    (hS : ∀ (wq : World) (G : Asr), Holds wq (G * F) → ∀ i v, (u8s bs)[i]? = some v → wq.cell? (ad.add i) = some v) (hT : w.cell? ⟨5, 15, none⟩ = some (.int .u8 4)) (hw : Holds w F) :
    Calls Tryd.prog 12 #[.slice (some ad) n c] w (RowC (hexL 4 n ++ [13, 10] ++ bs ++ [13, 10]) F w) := by
  have FB := Lib.hid (sappend n n0 (by omega) F w hT hw)
  have HS := Lib.hid hS
  have HN := Lib.hid hn
  have h4 := hexL_len 4 n
  have ONE : Hid (∀ v ∈ u8s bs, v.oneCell' = true) := by intro v hv; obtain ⟨x, -, rfl⟩ := List.mem_map.1 hv; rfl
  have LEN : Hid ((u8s bs).length = n * 1) := by show _ = _; rw [Nat.mul_one, ← hn]; simp [u8s]
  have m63 : Hid (5020 ≤ maxLen) := by show _ ≤ _; unfold maxLen; omega
  obtain ⟨L, hL⟩ : ∃ q, hexL 4 n = q := ⟨_, rfl⟩
  have nz : ((n : Int) == 0) = false := by simp; omega
  have nz2 : (n == 0) = false := by simp; omega
  rw [hL] at FB h4
  have HLL := Lib.hid hL
  clear hw hT hS hn hL
  go_enter Tryd.func12, Tryd.ntmps12
  go_wp2_with fail
  refine (FB.out).mono ?_
  rintro e w1 ⟨v1, rfl, h1, s1⟩
  have H1 := Lib.hid h1
  have S1 := Lib.hid s1
  clear h1 s1 FB
  go_wp2_with (at_builtin; refine wpList_append_str rfl _ _ 22 9 rfl 5 (.int .u8 0) 1 Tryd.underlying22 Tryd.underlying9 infoU8 rfl rfl H1.out ⟨#[13, 10]⟩ rfl (by decide) (by have := m63.out; show _ + 2 ≤ _; omega) (by show (_ + 2) * 1 ≤ _; omega) ?_)
  intro v2 w2 h2 s2
  have H2 : Hid (Holds w2 (rowA 5 1 v2 (L.length + 2) (u8s (L ++ [13, 10])) * F)) := by
    show Holds _ _
    rw [strCells_u8s, ← u8s_append] at h2
    exact h2
  have S2 := Lib.hid (S1.out.trans s2)
  clear h2 s2 H1 S1
  go_wp2_with (at_builtin; refine wpList_append_sep rfl _ _ 22 rfl 5 (.int .u8 0) 1 1 Tryd.underlying22 infoU8 rfl rfl H2.out ad n c (u8s bs) rfl LEN.out (HS.out _ _ H2.out) ONE.out (by have := m63.out; omega) (by omega) ?_)
  intro v3 w3 h3 s3 _
  have H3 : Hid (Holds w3 (rowA 5 1 v3 (L.length + 2 + n) (u8s (L ++ [13, 10] ++ bs)) * F)) := by
    show Holds _ _
    rw [← u8s_append] at h3
    exact h3
  have S3 := Lib.hid (S2.out.trans s3)
  clear h3 s3 H2 S2
  go_wp2_with (at_builtin; refine wpList_append_str rfl _ _ 22 9 rfl 5 (.int .u8 0) 1 Tryd.underlying22 Tryd.underlying9 infoU8 rfl rfl H3.out ⟨#[13, 10]⟩ rfl (by decide) (by have := m63.out; show _ + 2 ≤ _; omega) (by show (_ + 2) * 1 ≤ _; omega) ?_)
  intro v4 w4 h4' s4
  have H4 : Hid (Holds w4 (rowA 5 1 v4 (hexL 4 n ++ [13, 10] ++ bs ++ [13, 10]).length (u8s (hexL 4 n ++ [13, 10] ++ bs ++ [13, 10])) * F)) := by
    show Holds _ _
    rw [strCells_u8s, ← u8s_append] at h4'
    have e9 : (L ++ [13, 10] ++ bs ++ [13, 10]).length = L.length + 2 + n + 2 := by simp [HN.out]; omega
    rw [HLL.out, e9]
    have e8 : L ++ 13 :: 10 :: bs ++ ints ⟨#[13, 10]⟩ = L ++ [13, 10] ++ bs ++ [13, 10] := by simp [ints]
    rw [e8] at h4'
    exact h4'
  have S4 := Lib.hid (S3.out.trans s4)
  clear h4' s4 H3 S3
  go_wp2_with fail
  go_ret
  exact ⟨_, rfl, H4.out, S4.out⟩
#print axioms chunk_calls
end Go.Proofs.YtibhnkkfaochhaaDoor.Fr
