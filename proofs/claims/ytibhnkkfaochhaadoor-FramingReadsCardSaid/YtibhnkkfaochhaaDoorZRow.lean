/-
  A row of bytes that a conversion of a string made, and append onto it.
-/
import Derived.Test.YtibhnkkfaochhaaDoorStrRow
import Derived.Deep.AppendSrc
import Derived.Laws.IdiomStrings
namespace Go.Sep
open Go.RowKit
open Go.Lib (strCells strCells_length strCells_oneCell)
set_option linter.unusedSimpArgs false
set_option linter.unusedVariables false
section
variable {P : Program} {ops : Array Oper} {rest : List Oper} {o : Oper} {a : Act} {Q : Exit → Act → World → Prop} {w : World}

def rowZ (T : TypeId) (v : Value) (n : Nat) (xs : List Value) : Asr := fun h =>
  xs.length = n ∧ ∃ g cap cur fz, v = .slice (some ⟨g, 0, none⟩) n cap ∧ n ≤ cap ∧ cap ≤ maxLen ∧ cur.size = cap ∧ (fz = (0, 0) ∨ cap ≤ fz.1) ∧ cur.toList.take n = xs ∧ pts g (.cells cur T fz) h
theorem rowZ_cases {T : TypeId} {n : Nat} {v : Value} {xs : List Value} {F : Asr} (h : Holds w (rowZ T v n xs * F)) :
    xs.length = n ∧ ∃ g cap cur fz, v = .slice (some ⟨g, 0, none⟩) n cap ∧ n ≤ cap ∧ cap ≤ maxLen ∧ cur.size = cap ∧ (fz = (0, 0) ∨ cap ≤ fz.1) ∧ cur.toList.take n = xs ∧ Holds w (pts g (.cells cur T fz) * F) := by
  obtain ⟨x, ⟨h1, h2, hd, hx, ⟨hl, hr⟩, b⟩, k⟩ := h
  obtain ⟨g, cap, cur, fz, e1, e2, e3, e4, e5, e6, e7⟩ := hr
  exact ⟨hl, g, cap, cur, fz, e1, e2, e3, e4, e5, e6, ⟨x, ⟨h1, h2, hd, hx, e7, b⟩, k⟩⟩
theorem rowZ_mk {T : TypeId} {n g cap : Nat} {cur : Array Value} {fz : Nat × Nat} {xs : List Value} {F : Asr} (h : Holds w (pts g (.cells cur T fz) * F)) (h1 : n ≤ cap) (h2 : cap ≤ maxLen) (h3 : cur.size = cap) (h4 : fz = (0, 0) ∨ cap ≤ fz.1) (h5 : cur.toList.take n = xs) :
    Holds w (rowZ T (.slice (some ⟨g, 0, none⟩) n cap) n xs * F) := by
  obtain ⟨x, ⟨y1, y2, hd, hx, a, b⟩, k⟩ := h
  refine ⟨x, ⟨y1, y2, hd, hx, ⟨?_, g, cap, cur, fz, rfl, h1, h2, h3, h4, h5, a⟩, b⟩, k⟩
  rw [← h5, List.length_take, Array.length_toList, h3]
  exact Nat.min_eq_left h1
theorem rowZ_cell {T : TypeId} {n : Nat} {v : Value} {xs : List Value} {F : Asr} (h : Holds w (rowZ T v n xs * F)) : ∃ g cap, v = .slice (some ⟨g, 0, none⟩) n cap ∧ g < w.heap.size ∧ ∀ j u, xs[j]? = some u → w.cell? ⟨g, j, none⟩ = some u := by
  obtain ⟨hl, g, cap, cur, fz, e1, e2, e3, e4, e5, e6, e7⟩ := rowZ_cases h
  refine ⟨g, cap, e1, e7.lt, fun j u hu => ?_⟩
  rw [e7.cell, ← Array.getElem?_toList]
  rw [← e6, List.getElem?_take] at hu
  split at hu
  · exact hu
  · cases hu
theorem Holds.setCells {b : Nat} {T : TypeId} {fz : Nat × Nat} {F : Asr} : ∀ (news : List Value) (o : Nat) (w : World) (cs : Array Value), Holds w (pts b (.cells cs T fz) * F) → o + news.length ≤ cs.size →
    ∃ cs' : Array Value, cs'.toList = cs.toList.take o ++ news ++ cs.toList.drop (o + news.length) ∧ Holds (w.setCells b o news) (pts b (.cells cs' T fz) * F) ∧ Sm w (w.setCells b o news)
  | [], o, w, cs, h, _ => ⟨cs, by simp, h, Sm.refl w⟩
  | v :: r, o, w, cs, h, hl => by
    simp only [List.length_cons] at hl
    obtain ⟨cs', e, h2, s2⟩ := Holds.setCells r (o + 1) (w.setCell ⟨b, o, none⟩ v) (cs.setIfInBounds o v) (h.store o v) (by simp; omega)
    refine ⟨cs', ?_, h2, ((Sm.refl w).setCell _ _).trans s2⟩
    rw [e]
    have hol : o < cs.toList.length := by simp; omega
    simp only [Array.toList_setIfInBounds, List.length_cons]
    rw [List.take_set, List.drop_set, if_pos (by omega), show o + 1 + r.length = o + (r.length + 1) by omega]
    have : (cs.toList.take (o + 1)).set o v = cs.toList.take o ++ [v] := by
      rw [List.take_succ_eq_append_getElem hol, List.set_append_right _ _ (by simp; omega)]
      have e0 : o - min o cs.size = 0 := by simp at hol; omega
      simp [e0]
    rw [this]
    simp
theorem run_append_sepZ {T t : TypeId} (ty : TypeId) {i : TypeInfo} {z : Value} (ht : P.underlying t = some (.slice T)) (hi : P.info? T = some i) (hz : i.zero = some z) (hzs : z.cells.size = i.size) (hs1 : i.size = 1)
    {v : Value} {n : Nat} {xs : List Value} {F : Asr} (h : Holds w (rowZ T v n xs * F))
    (ad : Addr) (m c : Nat) (news : List Value) (hl : news.length = m) (hnews : ∀ j u, news[j]? = some u → w.cell? (ad.add j) = some u) (h1 : ∀ u ∈ news, u.oneCell' = true)
    (h63 : n + m ≤ maxLen) (hbytes : (n + m) * i.bytes ≤ 140737488355328) :
    ∃ v' w', (Builtin.append_ #[t, t] ty #[v, .slice (some ad) m c]).run P w = .ok v' w' ∧ Holds w' (rowZ T v' (n + m) (xs ++ news) * F) ∧ Sm w w' := by
  have hsmall : n + m ≤ 9223372036854775807 := by simp only [maxLen] at h63; omega
  obtain ⟨hx, g, cap, cur, fz, rfl, hnc, hcm, hcs, hfz, htake, hg⟩ := rowZ_cases h
  have hlen : (xs ++ news).length = n + m := by rw [List.length_append, hx, hl]
  have src : Go.Src P i.size t (.slice (some ad) m c) m news w := Go.Src.ofSlice w ht ad m c news (by rw [hs1]; omega) hnews h1
  by_cases hroom : n + m ≤ cap
  · have hr := run_append_room_src (P := P) w t t ty T i ht hi g 0 n cap (.slice (some ad) m c) m news src hroom
      (fun j hj => by
        rw [hg.cell]
        rw [Array.getElem?_eq_getElem (by rw [hs1]; omega)]; rfl)
      (fun j hj => by
        unfold World.frozen?
        rw [hg.at]
        rcases hfz with rfl | hfz
        · simp
        · have : ¬ fz.1 ≤ n * i.size + j := by rw [hs1]; omega
          simp [this])
    obtain ⟨cs', e, h2, s2⟩ := Holds.setCells news (0 + n * i.size) w cur hg (by rw [hs1]; omega)
    refine ⟨_, _, hr, rowZ_mk h2 hroom hcm ?_ hfz ?_, s2⟩
    · have := congrArg List.length e
      simp only [Array.length_toList, List.length_append, List.length_take, List.length_drop, hs1] at this
      omega
    · rw [e, hs1, Nat.zero_add, Nat.mul_one, htake, ← hlen]
      exact List.take_left
  · have holds : ∀ j u, xs[j]? = some u → w.cell? ((⟨g, 0, none⟩ : Addr).add j) = some u := by
      intro j u hu
      rw [Addr.add_lit, Nat.zero_add, hg.cell, ← Array.getElem?_toList]
      rw [← htake, List.getElem?_take] at hu
      split at hu
      · exact hu
      · cases hu
    have hr := run_append_grow (P := P) w t ty T i z ht hi hz ⟨g, 0, none⟩ n cap xs (by rw [hs1]; omega) holds ad m c news (by rw [hs1]; omega) hnews (by omega) (by omega) (growslice_fits (by omega) hbytes)
    have hge := grownCap_ge w (n + m) cap T
    have hcm : grownCap w (n + m) cap T ≤ maxLen := grownCap_le_maxLen w (n + m) cap T h63
    refine ⟨_, _, hr, rowZ_mk (hg.right.drew.alloc _) hge hcm ?_ (.inl rfl) ?_, ((Sm.refl w).drew).alloc _⟩
    · simp only [Array.size_append, List.size_toArray, size_zeroCells, hzs, hs1, hx, hl]
      omega
    · simp only [Array.toList_append, List.append_assoc]
      rw [← List.append_assoc, ← hlen]
      exact List.take_left
theorem wpList_append_sepZ (hgd : o.guard = none) (s x : Operand) (t : TypeId) (ho : o.op = .call { callee := .builtin .append, args := #[s, x], argTypes := #[t, t] })
    (T : TypeId) (z : Value) (bytes : Nat) (ht : P.underlying t = some (.slice T)) (hinfo : (P.info? T).map (fun i => (i.zero, i.size, i.bytes)) = some (some z, 1, bytes)) (hzs : z.cells.size = 1)
    {v : Value} {n : Nat} {xs : List Value} {F : Asr} (hs : a.eval s = v) (h : Holds w (rowZ T v n xs * F))
    (ad : Addr) (m c : Nat) (news : List Value) (hx : a.eval x = .slice (some ad) m c) (hl : news.length = m) (hnews : ∀ j u, news[j]? = some u → w.cell? (ad.add j) = some u) (h1 : ∀ u ∈ news, u.oneCell' = true)
    (h63 : n + m ≤ maxLen) (hbytes : (n + m) * bytes ≤ 140737488355328)
    (hk : ∀ v' w', Holds w' (rowZ T v' (n + m) (xs ++ news) * F) → Sm w w' → wpList P ops Q rest (a.put o.dst v') w') : wpList P ops Q (o :: rest) a w := by
  obtain ⟨i, hi, hz, hs1, rfl⟩ := info_parts hinfo
  obtain ⟨v', w', hr, k1, k2⟩ := run_append_sepZ (P := P) o.type ht hi hz (by rw [hs1]; exact hzs) hs1 h ad m c news hl hnews h1 h63 hbytes
  subst hs
  refine wpList_append_run hgd s x _ ho v' w' ?_ (hk v' w' k1 k2)
  rw [hx]; exact hr
/-- the conversion of a string -/
theorem conv_row {src dst e : TypeId} (s : ByteArray) (hs : P.underlying src = some .string) (hd : P.underlying dst = some (.slice e)) (he : P.underlying e = some (.int .u8)) (h9 : s.size ≤ 1048576) {F : Asr} (h : Holds w F) :
    ∃ v w', (convert src dst (.string s)).run P w = .ok v w' ∧ Holds w' (rowZ e v s.size (strCells s) * F) ∧ Sm w w' := by
  have hge := grownCap_ge w s.size 0 e
  have hcm : grownCap w s.size 0 e ≤ maxLen := grownCap_le_maxLen w s.size 0 e (by unfold maxLen; omega)
  refine ⟨_, _, run_bytes_of_string w src dst e s hs hd he, rowZ_mk (h.drew.alloc _) hge hcm ?_ (.inr ?_) ?_, ((Sm.refl w).drew).alloc _⟩
  · simp [bytesRow]; show s.size + _ = _; omega
  · simp [bytesRow]; show _ ≤ s.size + _; omega
  · have : s.size = (strCells s).length := (strCells_length s).symm
    rw [this]
    simp only [bytesRow, Array.toList_append]
    rw [show (s.data.map (fun b => Value.int .u8 b.toNat)).toList = strCells s by simp [strCells]]
    exact List.take_left
end
end Go.Sep
