/-
  append of a string's bytes to a row of its own.
-/
import Derived.Test.YtibhnkkfaochhaaDoorMem
import Derived.Lib.AppendStr
import Derived.WalkKit
namespace Go.Sep
open Go.RowKit
open Go.Lib (strCells strCells_length strCells_oneCell run_append_room_string run_append_grow_string)
set_option linter.unusedSimpArgs false
set_option linter.unusedVariables false
section
variable {P : Program} {ops : Array Oper} {rest : List Oper} {o : Oper} {a : Act} {Q : Exit → Act → World → Prop} {w : World}

theorem run_append_str_sep {T : TypeId} {t u : TypeId} (ty : TypeId) {i : TypeInfo} {z : Value} (ht : P.underlying t = some (.slice T)) (hu : P.underlying u = some .string) (hi : P.info? T = some i) (hz : i.zero = some z) (hzs : z.cells.size = i.size) (hs1 : i.size = 1)
    {v : Value} {n : Nat} {xs : List Value} {F : Asr} (h : Holds w (rowA T 1 v n xs * F)) (s : ByteArray) (h0 : 0 < s.size)
    (h63 : n + s.size ≤ maxLen) (hbytes : (n + s.size) * i.bytes ≤ 140737488355328) :
    ∃ v' w', (Builtin.append_ #[t, u] ty #[v, .string s]).run P w = .ok v' w' ∧ Holds w' (rowA T 1 v' (n + s.size) (xs ++ strCells s) * F) ∧ Sm w w' := by
  have hsmall : n + s.size ≤ 9223372036854775807 := by simp only [maxLen] at h63; omega
  obtain ⟨hx, hc⟩ := rowA_cases h
  have hsl := strCells_length s
  have hlen : (xs ++ strCells s).length = (n + s.size) * 1 := by rw [List.length_append, hx, hsl]; omega
  rw [hs1] at hzs
  have grown : ∀ old : Nat, Holds w F →
      Holds (w.drew.alloc (.cells (xs.toArray ++ (strCells s).toArray ++ Builtin.zeroCells z.cells (grownCap w (n + s.size) old T - (n + s.size))) T)) (rowA T 1 (.slice (some ⟨w.heap.size, 0, none⟩) (n + s.size) (grownCap w (n + s.size) old T)) (n + s.size) (xs ++ strCells s) * F) ∧
      Sm w (w.drew.alloc (.cells (xs.toArray ++ (strCells s).toArray ++ Builtin.zeroCells z.cells (grownCap w (n + s.size) old T - (n + s.size))) T)) := by
    intro old hF
    have hge := grownCap_ge w (n + s.size) old T
    have hcm : grownCap w (n + s.size) old T ≤ maxLen := grownCap_le_maxLen w (n + s.size) old T h63
    refine ⟨rowA_mk' (hF.drew.alloc _) hge hcm ?_ ?_, ((Sm.refl w).drew).alloc _⟩
    · simp only [Array.size_append, List.size_toArray, size_zeroCells, hzs, hx, hsl]
      omega
    · simp only [Array.toList_append, List.append_assoc]
      rw [← List.append_assoc, ← hlen]
      exact List.take_left
  rcases hc with ⟨rfl, rfl, hF⟩ | ⟨g, cap, cur, rfl, hnc, hcm, hcs, htake, hg⟩
  · have hx0 : xs = [] := List.eq_nil_of_length_eq_zero (by simpa using hx)
    subst hx0
    have hr := run_append_nil_string (P := P) w t u ty T i z ht hu hi hz s h0 (by omega) (by have hb := hbytes; simp only [Nat.zero_add] at hb; omega)
    have hgr := grown 0 hF
    have e : s.data.map (fun b => Value.int .u8 b.toNat) = (strCells s).toArray := by
      apply Array.ext'
      simp [strCells]
    rw [e] at hr
    simp only [Nat.zero_add, List.nil_append, Array.empty_append] at hgr ⊢
    exact ⟨_, _, hr, hgr.1, hgr.2⟩
  · by_cases hroom : n + s.size ≤ cap
    · have hfit : n + s.size ≤ cur.size := by omega
      have hr := run_append_room_string (P := P) w t u ty T i ht hu hi hs1 g n cap cur hg.at s hroom hfit
      refine ⟨_, _, hr, rowA_mk' (hg.setRow _) hroom hcm ?_ ?_, (Sm.refl w).setRow _ _⟩
      · simp only [List.size_toArray, List.length_append, List.length_take, List.length_drop, Array.length_toList, hsl]
        omega
      · rw [Nat.mul_one] at htake
        rw [htake, ← hlen]
        exact List.take_left
    · have holds : ∀ j u, xs[j]? = some u → w.cell? ((⟨g, 0, none⟩ : Addr).add j) = some u := by
        intro j u hu
        rw [Addr.add_lit, Nat.zero_add, hg.cell, ← Array.getElem?_toList]
        rw [← htake, List.getElem?_take] at hu
        split at hu
        · exact hu
        · cases hu
      have hr := run_append_grow_string (P := P) w t u ty T i z ht hu hi hz ⟨g, 0, none⟩ n cap xs (by rw [hs1]; exact hx) holds s (by omega) (by omega) (growslice_fits (by omega) hbytes)
      have hgr := grown cap hg.right
      exact ⟨_, _, hr, hgr.1, hgr.2⟩
theorem wpList_append_str (hgd : o.guard = none) (s x : Operand) (t u : TypeId) (ho : o.op = .call { callee := .builtin .append, args := #[s, x], argTypes := #[t, u] })
    (T : TypeId) (z : Value) (bytes : Nat) (ht : P.underlying t = some (.slice T)) (hu : P.underlying u = some .string) (hinfo : (P.info? T).map (fun i => (i.zero, i.size, i.bytes)) = some (some z, 1, bytes)) (hzs : z.cells.size = 1)
    {v : Value} {n : Nat} {xs : List Value} {F : Asr} (hs : a.eval s = v) (h : Holds w (rowA T 1 v n xs * F)) (str : ByteArray) (hx : a.eval x = .string str) (h0 : 0 < str.size)
    (h63 : n + str.size ≤ maxLen) (hbytes : (n + str.size) * bytes ≤ 140737488355328)
    (hk : ∀ v' w', Holds w' (rowA T 1 v' (n + str.size) (xs ++ strCells str) * F) → Sm w w' → wpList P ops Q rest (a.put o.dst v') w') : wpList P ops Q (o :: rest) a w := by
  obtain ⟨i, hi, hz, hs1, rfl⟩ := info_parts hinfo
  obtain ⟨v', w', hr, k1, k2⟩ := run_append_str_sep (P := P) o.type ht hu hi hz (by rw [hs1]; exact hzs) hs1 h str h0 h63 hbytes
  subst hs
  refine wpList_append_run hgd s x _ ho v' w' ?_ (hk v' w' k1 k2)
  rw [hx]; exact hr
end
end Go.Sep
