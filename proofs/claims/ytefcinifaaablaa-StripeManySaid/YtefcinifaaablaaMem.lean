/-
  The built-in functions on slices, said of assertions.
-/
import Derived.Test.YtefcinifaaablaaLib
import Derived.Laws.CopyRow
import Derived.Laws.AppendOwn
import Derived.Laws.MakeOwn
namespace Go.Sep
open Go.RowKit
set_option linter.unusedSimpArgs false
set_option linter.unusedVariables false

theorem Holds.setRow {w : World} {b : Nat} {cs : Array Value} {T : TypeId} {fz : Nat × Nat} {F : Asr} (h : Holds w (pts b (.cells cs T fz) * F)) (cs' : Array Value) :
    Holds (w.setRow b cs') (pts b (.cells cs' T fz) * F) :=
  h.upd (setRow_heap w b cs cs' T fz h.at) fun k hk _ => setRow_other w b k cs' hk
theorem Sm.setRow {a w : World} (h : Sm a w) (b : Nat) (cs : Array Value) : Sm a (w.setRow b cs) := h.trans ⟨rfl, rfl, rfl, by simp⟩

section
variable {P : Program} {ops : Array Oper} {rest : List Oper} {o : Oper} {a : Act} {Q : Exit → Act → World → Prop} {w : World}

theorem wpList_clear_run (hgd : o.guard = none) (x : Operand) (ts : Array TypeId) (ho : o.op = .call { callee := .builtin .clear, args := #[x], argTypes := ts })
    (v : Value) (w1 : World) (hrun : (Builtin.clear_ ts o.type #[a.eval x]).run P w = .ok v w1) (h : wpList P ops Q rest (a.put o.dst v) w1) : wpList P ops Q (o :: rest) a w := by
  refine wpList_plain hgd fun _ hK => ?_
  unfold Oper.wp execOp
  simp only [ho, resolve, invoke, builtin, Sem.run_bind, Sem.run_pure, Result.andThen_ok, List.map_toArray, List.map_cons, List.map_nil, hrun]
  exact hK _ _ h
theorem wpList_copy_run (hgd : o.guard = none) (x y : Operand) (ts : Array TypeId) (ho : o.op = .call { callee := .builtin .copy, args := #[x, y], argTypes := ts })
    (v : Value) (w1 : World) (hrun : (Builtin.copy_ ts o.type #[a.eval x, a.eval y]).run P w = .ok v w1) (h : wpList P ops Q rest (a.put o.dst v) w1) : wpList P ops Q (o :: rest) a w := by
  refine wpList_plain hgd fun _ hK => ?_
  unfold Oper.wp execOp
  simp only [ho, resolve, invoke, builtin, Sem.run_bind, Sem.run_pure, Result.andThen_ok, List.map_toArray, List.map_cons, List.map_nil, hrun]
  exact hK _ _ h
theorem wpList_append_run (hgd : o.guard = none) (x y : Operand) (ts : Array TypeId) (ho : o.op = .call { callee := .builtin .append, args := #[x, y], argTypes := ts })
    (v : Value) (w1 : World) (hrun : (Builtin.append_ ts o.type #[a.eval x, a.eval y]).run P w = .ok v w1) (h : wpList P ops Q rest (a.put o.dst v) w1) : wpList P ops Q (o :: rest) a w := by
  refine wpList_plain hgd fun _ hK => ?_
  unfold Oper.wp execOp
  simp only [ho, resolve, invoke, builtin, Sem.run_bind, Sem.run_pure, Result.andThen_ok, List.map_toArray, List.map_cons, List.map_nil, hrun]
  exact hK _ _ h
theorem wpList_make_run (hgd : o.guard = none) (x y : Operand) (t : TypeId) (ho : o.op = Op.makeSlice t x y)
    (v : Value) (w1 : World) (hrun : (Instr.makeSlice t (a.eval x) (a.eval y)).run P w = .ok v w1) (h : wpList P ops Q rest (a.put o.dst v) w1) : wpList P ops Q (o :: rest) a w := by
  refine wpList_plain hgd fun _ hK => ?_
  unfold Oper.wp execOp
  simp only [ho, Sem.run_bind, Sem.run_pure, Result.andThen_ok, hrun]
  exact hK _ _ h

theorem zeroCells_one (z : Value) (n : Nat) : (Builtin.zeroCells #[z] n).toList = List.replicate n z := by
  apply List.ext_getElem
  · simp [Builtin.zeroCells]
  · intro i h1 h2
    simp [Builtin.zeroCells, Nat.mod_one]

/-- clear of a slice that is a whole row of one-cell elements -/
theorem run_clear_row {g n c : Nat} {cs : Array Value} {T t e : TypeId} {z : Value} {F : Asr} (ty : TypeId) (ht : P.underlying t = some (.slice e)) (hz : ∀ w, (zeroValue e).run P w = .ok z w) (hz1 : z.cells = #[z]) (hzo : z.oneCell' = true)
    (h : Holds w (pts g (.cells cs T (0, 0)) * F)) (hs : cs.size = n) (hn : 0 < n) :
    (Builtin.clear_ #[t] ty #[.slice (some ⟨g, 0, none⟩) n c]).run P w = .ok (.tuple #[]) (w.setRow g (Array.replicate n z)) := by
  have hst := run_storeCells_at P g 0 T (List.replicate n z) 0 cs w h.at (by simp; omega) (by intro v hv; rw [(List.mem_replicate.1 hv).2]; exact hzo)
  obtain ⟨k, rfl⟩ : ∃ k, n = k + 1 := ⟨n - 1, by omega⟩
  simp only [Nat.add_zero, List.take_zero, List.nil_append, List.length_replicate, Nat.zero_add, List.drop_of_length_le (show cs.toList.length ≤ k + 1 by simp; omega), List.append_nil] at hst
  simp [Builtin.clear_, run_underlying ht, hz, hz1, zeroCells_one, hst]

/-- copy into a row of one-cell elements -/
theorem run_copy_sep {g o dl dc sl n : Nat} {cs : Array Value} {T t t' e : TypeId} {F : Asr} {src : Value} {news : List Value} (ty : TypeId) (ht : P.underlying t = some (.slice e)) (hsz : ∀ w, (sizeOf e).run P w = .ok 1 w)
    (h : Holds w (pts g (.cells cs T (0, 0)) * F)) (hlen : (Builtin.lenOf src).run P w = .ok sl w) (hn : Nat.min sl dl = n) (hsrc : (Builtin.firstCells 1 n src).run P w = .ok news.toArray w) (hnl : news.length = n) (hno : ∀ v ∈ news, v.oneCell' = true) (hfit : o + n ≤ cs.size) :
    (Builtin.copy_ #[t, t'] ty #[.slice (some ⟨g, o, none⟩) dl dc, src]).run P w = .ok (goInt n) (w.setRow g (cs.toList.take o ++ news ++ cs.toList.drop (o + n)).toArray) := by
  have hst := run_storeCells_at P g o T news 0 cs w h.at (by omega) hno
  rw [Nat.add_zero, hnl] at hst
  simp [Builtin.copy_, run_underlying ht, hlen, hn, hsz, hsrc, hst]

/-- A slice value and the row that it owns (nil: none). -/
def rowA (T : TypeId) (sz : Nat) (v : Value) (n : Nat) (xs : List Value) : Asr := fun h =>
  xs.length = n * sz ∧ ((v = .slice none 0 0 ∧ n = 0 ∧ emp h) ∨ ∃ g cap cur, v = .slice (some ⟨g, 0, none⟩) n cap ∧ n ≤ cap ∧ cap ≤ maxLen ∧ cur.size = cap * sz ∧ cur.toList.take (n * sz) = xs ∧ pts g (.cells cur T (0, 0)) h)

theorem rowA_cases {T : TypeId} {sz n : Nat} {v : Value} {xs : List Value} {F : Asr} (h : Holds w (rowA T sz v n xs * F)) :
    xs.length = n * sz ∧ ((v = .slice none 0 0 ∧ n = 0 ∧ Holds w F) ∨ ∃ g cap cur, v = .slice (some ⟨g, 0, none⟩) n cap ∧ n ≤ cap ∧ cap ≤ maxLen ∧ cur.size = cap * sz ∧ cur.toList.take (n * sz) = xs ∧ Holds w (pts g (.cells cur T (0, 0)) * F)) := by
  obtain ⟨x, ⟨h1, h2, hd, hx, ⟨hl, hr⟩, b⟩, k⟩ := h
  refine ⟨hl, ?_⟩
  rcases hr with ⟨e1, e2, e3⟩ | ⟨g, cap, cur, e1, e2, e3, e4, e5, e6⟩
  · exact .inl ⟨e1, e2, Holds.right (A := emp) ⟨x, ⟨h1, h2, hd, hx, e3, b⟩, k⟩⟩
  · exact .inr ⟨g, cap, cur, e1, e2, e3, e4, e5, ⟨x, ⟨h1, h2, hd, hx, e6, b⟩, k⟩⟩
theorem rowA_nil {T : TypeId} {sz : Nat} {F : Asr} (h : Holds w F) : Holds w (rowA T sz (.slice none 0 0) 0 [] * F) := by
  rw [← emp_star F] at h
  obtain ⟨x, ⟨h1, h2, hd, hx, a, b⟩, k⟩ := h
  exact ⟨x, ⟨h1, h2, hd, hx, ⟨by simp, .inl ⟨rfl, rfl, a⟩⟩, b⟩, k⟩
theorem rowA_mk {T : TypeId} {sz n g cap : Nat} {cur : Array Value} {F : Asr} (h : Holds w (pts g (.cells cur T (0, 0)) * F)) (h1 : n ≤ cap) (h2 : cap ≤ maxLen) (h3 : cur.size = cap * sz) :
    Holds w (rowA T sz (.slice (some ⟨g, 0, none⟩) n cap) n (cur.toList.take (n * sz)) * F) := by
  obtain ⟨x, ⟨y1, y2, hd, hx, a, b⟩, k⟩ := h
  refine ⟨x, ⟨y1, y2, hd, hx, ⟨?_, .inr ⟨g, cap, cur, rfl, h1, h2, h3, rfl, a⟩⟩, b⟩, k⟩
  simp only [List.length_take, Array.length_toList, h3]
  exact Nat.min_eq_left (Nat.mul_le_mul_right _ h1)
theorem rowA_mk' {T : TypeId} {sz n g cap : Nat} {cur : Array Value} {xs : List Value} {F : Asr} (h : Holds w (pts g (.cells cur T (0, 0)) * F)) (h1 : n ≤ cap) (h2 : cap ≤ maxLen) (h3 : cur.size = cap * sz) (h4 : cur.toList.take (n * sz) = xs) :
    Holds w (rowA T sz (.slice (some ⟨g, 0, none⟩) n cap) n xs * F) := h4 ▸ rowA_mk h h1 h2 h3

/-- append: whatever is there stays there; the slice has the new elements behind the old ones -/
theorem run_append_sep {T : TypeId} {t : TypeId} (ty : TypeId) {i : TypeInfo} {z : Value} (ht : P.underlying t = some (.slice T)) (hi : P.info? T = some i) (hz : i.zero = some z) (hzs : z.cells.size = i.size)
    {v : Value} {n : Nat} {xs : List Value} {F : Asr} (h : Holds w (rowA T i.size v n xs * F))
    (ad : Addr) (m c : Nat) (news : List Value) (hl : news.length = m * i.size) (hnews : ∀ j u, news[j]? = some u → w.cell? (ad.add j) = some u) (h1 : ∀ u ∈ news, u.oneCell' = true)
    (h63 : n + m ≤ maxLen) (hbytes : (n + m) * i.bytes ≤ 140737488355328) :
    ∃ v' w', (Builtin.append_ #[t, t] ty #[v, .slice (some ad) m c]).run P w = .ok v' w' ∧ Holds w' (rowA T i.size v' (n + m) (xs ++ news) * F) ∧ Sm w w' ∧ (v' = .slice none 0 0 ↔ v = .slice none 0 0 ∧ m = 0) := by
  have hsmall : n + m ≤ 9223372036854775807 := by simp only [maxLen] at h63; omega
  obtain ⟨hx, hc⟩ := rowA_cases h
  have hlen : (xs ++ news).length = (n + m) * i.size := by rw [List.length_append, hx, hl, Nat.add_mul]
  have grown : ∀ old : Nat, Holds w F →
      Holds (w.drew.alloc (.cells (xs.toArray ++ news.toArray ++ Builtin.zeroCells z.cells (grownCap w (n + m) old T - (n + m))) T)) (rowA T i.size (.slice (some ⟨w.heap.size, 0, none⟩) (n + m) (grownCap w (n + m) old T)) (n + m) (xs ++ news) * F) ∧
      Sm w (w.drew.alloc (.cells (xs.toArray ++ news.toArray ++ Builtin.zeroCells z.cells (grownCap w (n + m) old T - (n + m))) T)) := by
    intro old hF
    have hge := grownCap_ge w (n + m) old T
    have hcm : grownCap w (n + m) old T ≤ maxLen := grownCap_le_maxLen w (n + m) old T h63
    refine ⟨rowA_mk' (hF.drew.alloc _) hge hcm ?_ ?_, ((Sm.refl w).drew).alloc _⟩
    · simp only [Array.size_append, List.size_toArray, size_zeroCells, hzs, hx, hl, ← Nat.add_mul]
      congr 1
      omega
    · simp only [Array.toList_append, List.append_assoc]
      rw [← List.append_assoc, ← hlen]
      exact List.take_left
  rcases hc with ⟨rfl, rfl, hF⟩ | ⟨g, cap, cur, rfl, hnc, hcm, hcs, htake, hg⟩
  · have hx0 : xs = [] := List.eq_nil_of_length_eq_zero (by simpa using hx)
    subst hx0
    by_cases hm : m = 0
    · subst hm
      have hn : news = [] := List.eq_nil_of_length_eq_zero (by simpa using hl)
      subst hn
      refine ⟨.slice none 0 0, w, ?_, h, Sm.refl w, by simp⟩
      simp [Builtin.append_, run_underlying ht, sizeOf, typeInfo, hi, Builtin.lenOf, Builtin.firstCells, loadCells, loadCellsFrom]
    · have hr := run_append_nil (P := P) w t ty T i z ht hi hz ad m c news hl hnews (by omega) (by omega) (by have hb := hbytes; simp only [Nat.zero_add] at hb; omega)
      have hgr := grown 0 hF
      simp only [Nat.zero_add, List.nil_append, Array.empty_append] at hgr ⊢
      exact ⟨_, _, hr, hgr.1, hgr.2, by simp [hm]⟩
  · by_cases hroom : n + m ≤ cap
    · have hfit : n * i.size + news.length ≤ cur.size := by rw [hl, hcs, ← Nat.add_mul]; exact Nat.mul_le_mul_right _ hroom
      have hr := run_append_room (P := P) w t ty T i ht hi g n cap cur hg.at ad m c news hl hnews h1 hroom hfit
      refine ⟨_, _, hr, rowA_mk' (hg.setRow _) hroom hcm ?_ ?_, (Sm.refl w).setRow _ _, by simp⟩
      · simp only [List.size_toArray, List.length_append, List.length_take, List.length_drop, Array.length_toList]
        omega
      · rw [htake, ← hlen]
        exact List.take_left
    · have holds : ∀ j u, xs[j]? = some u → w.cell? ((⟨g, 0, none⟩ : Addr).add j) = some u := by
        intro j u hu
        rw [Addr.add_lit, Nat.zero_add, hg.cell, ← Array.getElem?_toList]
        rw [← htake, List.getElem?_take] at hu
        split at hu
        · exact hu
        · cases hu
      have hr := run_append_grow (P := P) w t ty T i z ht hi hz ⟨g, 0, none⟩ n cap xs hx holds ad m c news hl hnews (by omega) (by omega) (growslice_fits (by omega) hbytes)
      have hgr := grown cap hg.right
      exact ⟨_, _, hr, hgr.1, hgr.2, by simp⟩

theorem wpList_append_sep (hgd : o.guard = none) (s x : Operand) (t : TypeId) (ho : o.op = .call { callee := .builtin .append, args := #[s, x], argTypes := #[t, t] })
    (T : TypeId) (z : Value) (size bytes : Nat) (ht : P.underlying t = some (.slice T)) (hinfo : (P.info? T).map (fun i => (i.zero, i.size, i.bytes)) = some (some z, size, bytes)) (hzs : z.cells.size = size)
    {v : Value} {n : Nat} {xs : List Value} {F : Asr} (hs : a.eval s = v) (h : Holds w (rowA T size v n xs * F))
    (ad : Addr) (m c : Nat) (news : List Value) (hx : a.eval x = .slice (some ad) m c) (hl : news.length = m * size) (hnews : ∀ j u, news[j]? = some u → w.cell? (ad.add j) = some u) (h1 : ∀ u ∈ news, u.oneCell' = true)
    (h63 : n + m ≤ maxLen) (hbytes : (n + m) * bytes ≤ 140737488355328)
    (hk : ∀ v' w', Holds w' (rowA T size v' (n + m) (xs ++ news) * F) → Sm w w' → (v' = .slice none 0 0 ↔ v = .slice none 0 0 ∧ m = 0) → wpList P ops Q rest (a.put o.dst v') w') : wpList P ops Q (o :: rest) a w := by
  obtain ⟨i, hi, hz, rfl, rfl⟩ := info_parts hinfo
  obtain ⟨v', w', hr, k1, k2, k3⟩ := run_append_sep (P := P) o.type ht hi hz hzs h ad m c news hl hnews h1 h63 hbytes
  subst hs
  refine wpList_append_run hgd s x _ ho v' w' ?_ (hk v' w' k1 k2 k3)
  rw [hx]; exact hr


/-- A slice of records: each of 'sz' cells. -/
def rowL {α : Type _} (T : TypeId) (sz : Nat) (enc : α → List Value) (v : Value) (l : List α) : Asr := rowA T sz v l.length (l.flatMap enc)

theorem rowA_slice {T : TypeId} {sz n : Nat} {v : Value} {xs : List Value} {F : Asr} (h : Holds w (rowA T sz v n xs * F)) : ∃ ao cap, v = .slice ao n cap ∧ n ≤ cap := by
  rcases (rowA_cases h).2 with ⟨rfl, rfl, _⟩ | ⟨g, cap, cur, rfl, h1, _⟩
  · exact ⟨none, 0, rfl, Nat.le_refl _⟩
  · exact ⟨_, _, rfl, h1⟩
theorem rowA_cell {T : TypeId} {sz n : Nat} {v : Value} {xs : List Value} {F : Asr} (h : Holds w (rowA T sz v n xs * F)) (hn : 0 < n) :
    ∃ g cap, v = .slice (some ⟨g, 0, none⟩) n cap ∧ n ≤ cap ∧ g < w.heap.size ∧ (∀ j, j < n * sz → w.cell? ⟨g, j, none⟩ = xs[j]?) ∧ (∀ j, w.frozen? ⟨g, j, none⟩ = false) := by
  rcases (rowA_cases h).2 with ⟨rfl, rfl, _⟩ | ⟨g, cap, cur, rfl, h1, h2, h3, h4, h5⟩
  · omega
  · refine ⟨g, cap, rfl, h1, h5.lt, fun j hj => ?_, h5.frozen⟩
    rw [h5.cell, ← h4, List.getElem?_take, if_pos hj, Array.getElem?_toList]
theorem rowL_cell {α : Type _} {T : TypeId} {sz : Nat} {enc : α → List Value} {v : Value} {l : List α} {F : Asr} (h : Holds w (rowL T sz enc v l * F)) (he : ∀ x, (enc x).length = sz) (i : Nat) (hi : i < l.length) :
    ∃ g cap, v = .slice (some ⟨g, 0, none⟩) l.length cap ∧ l.length ≤ cap ∧ g < w.heap.size ∧ (∀ j, j < sz → w.cell? ⟨g, i * sz + j, none⟩ = (enc l[i])[j]?) ∧ (∀ j, w.frozen? ⟨g, j, none⟩ = false) := by
  obtain ⟨g, cap, h1, h2, h3, h4, h5⟩ := rowA_cell h (by omega)
  refine ⟨g, cap, h1, h2, h3, fun j hj => ?_, h5⟩
  rw [h4 _ (by have : (i + 1) * sz ≤ l.length * sz := Nat.mul_le_mul_right _ hi; rw [Nat.add_mul] at this; omega)]
  have := flat_get he i j hi hj
  simpa [flat] using this
theorem rowL_nil {α : Type _} {T : TypeId} {sz : Nat} {enc : α → List Value} {F : Asr} (h : Holds w F) : Holds w (rowL T sz enc (.slice none 0 0) ([] : List α) * F) := rowA_nil h
theorem rowL_snoc {α : Type _} {T : TypeId} {sz : Nat} {enc : α → List Value} {v : Value} {l : List α} {x : α} {m : Nat} {F : Asr} (h : Holds w (rowA T sz v (l.length + m) (l.flatMap enc ++ enc x) * F)) (hm : m = 1) : Holds w (rowL T sz enc v (l ++ [x]) * F) := by
  subst hm; unfold rowL; simpa using h

theorem cells_new (w : World) (cs : Array Value) (T : TypeId) (l : List Value) (h : cs.toList = l) : ∀ j u, l[j]? = some u → (w.alloc (.cells cs T)).cell? ((⟨w.heap.size, 0, none⟩ : Addr).add j) = some u := by
  intro j u hu
  subst h
  rw [Addr.add_lit, Nat.zero_add, World.cell?_alloc_new]
  simpa using hu

/-- append of one record -/
theorem wpList_append_one {α : Type _} {enc : α → List Value} (hgd : o.guard = none) (s x : Operand) (t : TypeId) (ho : o.op = .call { callee := .builtin .append, args := #[s, x], argTypes := #[t, t] })
    (T : TypeId) (z : Value) (size bytes : Nat) (ht : P.underlying t = some (.slice T)) (hinfo : (P.info? T).map (fun i => (i.zero, i.size, i.bytes)) = some (some z, size, bytes)) (hzs : z.cells.size = size)
    (e : α) {v : Value} {l : List α} {F : Asr} (hs : a.eval s = v) (h : Holds w (rowL T size enc v l * F))
    (ad : Addr) (c : Nat) (hx : a.eval x = .slice (some ad) 1 c) (hl : (enc e).length = size) (hnews : ∀ j u, (enc e)[j]? = some u → w.cell? (ad.add j) = some u) (h1 : ∀ u ∈ enc e, u.oneCell' = true)
    (h63 : l.length + 1 ≤ maxLen) (hbytes : (l.length + 1) * bytes ≤ 140737488355328)
    (hk : ∀ v' w', Holds w' (rowL T size enc v' (l ++ [e]) * F) → Sm w w' → wpList P ops Q rest (a.put o.dst v') w') : wpList P ops Q (o :: rest) a w :=
  wpList_append_sep hgd s x t ho T z size bytes ht hinfo hzs hs h ad 1 c (enc e) hx (by rw [hl, Nat.one_mul]) hnews h1 h63 hbytes fun v' w' h2 h3 _ => hk v' w' (rowL_snoc h2 rfl) h3

theorem rowA_store {T : TypeId} {sz n g cap : Nat} {xs : List Value} {F : Asr} (h : Holds w (rowA T sz (.slice (some ⟨g, 0, none⟩) n cap) n xs * F)) (o : Nat) (ho : o < n * sz) (u : Value) :
    Holds (w.setCell ⟨g, o, none⟩ u) (rowA T sz (.slice (some ⟨g, 0, none⟩) n cap) n (xs.set o u) * F) := by
  rcases (rowA_cases h).2 with ⟨h0, -⟩ | ⟨g', cap', cur, h0, h1, h2, h3, h4, h5⟩
  · simp at h0
  · simp at h0; obtain ⟨rfl, rfl⟩ := h0
    refine rowA_mk' (h5.store o u) h1 h2 (by simpa using h3) ?_
    rw [Array.toList_setIfInBounds, List.take_set, h4]
theorem flatMap_set3 {α : Type _} {enc : α → List Value} (he : ∀ x, (enc x).length = 3) (l : List α) (i : Nat) (hi : i < l.length) (x : α) (v0 v1 v2 : Value) (hx : enc x = [v0, v1, v2]) :
    (((l.flatMap enc).set (i * 3) v0).set (i * 3 + 1) v1).set (i * 3 + 2) v2 = (l.set i x).flatMap enc := by
  induction l generalizing i with
  | nil => simp at hi
  | cons y l ih =>
    cases i with
    | zero =>
      obtain ⟨a, b, c, hy⟩ : ∃ a b c, enc y = [a, b, c] := by
        have := he y
        match h : enc y, this with
        | [a, b, c], _ => exact ⟨a, b, c, rfl⟩
      simp [hx, hy]
    | succ i =>
      simp only [List.length_cons, Nat.add_lt_add_iff_right] at hi
      have hy := he y
      simp only [List.flatMap_cons, List.set_cons_succ]
      rw [← ih i hi]
      rw [List.set_append_right _ _ (by omega), List.set_append_right _ _ (by omega), List.set_append_right _ _ (by omega)]
      rw [hy, show (i + 1) * 3 - 3 = i * 3 by omega, show (i + 1) * 3 + 1 - 3 = i * 3 + 1 by omega, show (i + 1) * 3 + 2 - 3 = i * 3 + 2 by omega]
theorem rowL_store3 {α : Type _} {T : TypeId} {enc : α → List Value} {g cap : Nat} {l : List α} {F : Asr} (h : Holds w (rowL T 3 enc (.slice (some ⟨g, 0, none⟩) l.length cap) l * F)) (he : ∀ x, (enc x).length = 3) (i : Nat) (hi : i < l.length) (x : α) (v0 v1 v2 : Value) (hx : enc x = [v0, v1, v2]) :
    Holds (((w.setCell ⟨g, i * 3, none⟩ v0).setCell ⟨g, i * 3 + 1, none⟩ v1).setCell ⟨g, i * 3 + 2, none⟩ v2) (rowL T 3 enc (.slice (some ⟨g, 0, none⟩) l.length cap) (l.set i x) * F) := by
  unfold rowL at h ⊢
  have := rowA_store (rowA_store (rowA_store h (i * 3) (by omega) v0) (i * 3 + 1) (by omega) v1) (i * 3 + 2) (by omega) v2
  rw [flatMap_set3 he l i hi x v0 v1 v2 hx] at this
  simpa using this

#print axioms run_clear_row
#print axioms wpList_append_sep
end
end Go.Sep
