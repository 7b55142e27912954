/-
  The document's clock (ref19): out, turnHot.
-/
import Derived.Test.YtmaoboepmbioiaaRef19
namespace Go.Proofs.Ytmaoboepmbioiaa.Clock
open Go.RowKit Go.Sep
set_option maxRecDepth 100000
set_option linter.unusedVariables false
set_option linter.unusedSimpArgs false

/-- the cells of a row's part -/
theorem pgs_part {w : World} {g cap : Nat} {l : List Pg} {F : Asr} (h : Holds w (pgsA (.slice (some ⟨g, 0, none⟩) l.length cap) l * F)) (a m : Nat) (ham : a + m ≤ l.length) :
    ∀ j u, (((l.drop a).take m).flatMap pEnc)[j]? = some u → w.cell? ((⟨g, a * 2, none⟩ : Addr).add j) = some u := by
  intro j u hu
  have hj : j < m * 2 := by
    have := (List.getElem?_eq_some_iff.1 hu).1
    have e : (((l.drop a).take m).flatMap pEnc).length = ((l.drop a).take m).length * 2 := by
      have := flat_size (l := (l.drop a).take m) pEnc_len
      simpa [flat] using this
    rw [e] at this
    have := List.length_take_le m (l.drop a)
    omega
  have hi : a + j / 2 < l.length := by omega
  obtain ⟨g', cap', e, -, -, c0, c1, -⟩ := pgs_cell h (a + j / 2) hi
  simp at e
  obtain ⟨rfl, -⟩ := e
  have hu' := flat_get (l := (l.drop a).take m) pEnc_len (j / 2) (j % 2) (by simp; omega) (Nat.mod_lt _ (by omega))
  simp only [flat, List.getElem?_toArray] at hu'
  rw [show j / 2 * 2 + j % 2 = j by omega, hu] at hu'
  simp only [List.getElem_take, List.getElem_drop] at hu'
  have hm : j % 2 = 0 ∨ j % 2 = 1 := by omega
  rcases hm with h0 | h1
  · rw [h0] at hu'
    simp only [pEnc, List.getElem?_cons_zero] at hu'
    rw [hu', Addr.add_lit, ← c0]
    congr 2; omega
  · rw [h1] at hu'
    simp only [pEnc, List.getElem?_cons_succ, List.getElem?_cons_zero] at hu'
    rw [hu', Addr.add_lit, ← c1]
    congr 2; omega
theorem pEnc_one (l : List Pg) : ∀ u ∈ l.flatMap pEnc, u.oneCell' = true := by
  intro u hu
  obtain ⟨p, -, hp⟩ := List.mem_flatMap.1 hu
  simp [pEnc] at hp
  rcases hp with rfl | rfl <;> rfl
theorem pEnc_flat (l : List Pg) : (l.flatMap pEnc).length = l.length * 2 := by
  have := flat_size (l := l) pEnc_len
  simpa [flat] using this
def OutC (l : List Pg) (F : Asr) (w : World) (e : Ending) (w' : World) : Prop := ∃ v', e = .returned v' ∧ Holds w' (pgsA v' l * F) ∧ Sm w w'
set_option maxHeartbeats 2000000 in
theorem out_calls (v : Value) (l : List Pg) (k : Nat) (F : Asr) (w : World) (hk : k < l.length) (hl : l.length ≤ 100000) (hw : Holds w (pgsA v l * F)) :
    Calls Try.prog 89 #[v, .int .i64 k] w (OutC (l.eraseIdx k) (pgsA v l * F) w) := by
  obtain ⟨g, cap, rfl, hcap, hg, -, -, -⟩ := pgs_cell hw k hk
  have hmax : cap ≤ 9223372036854775807 := by
    obtain ⟨ao, cap', e, -, hm⟩ := pgs_slice hw
    simp at e
    rw [e.2]; unfold maxLen at hm; omega
  have HA := Lib.hid (show Holds (w.drew.alloc (.cells #[] 168)) (rowA 168 2 (.slice (some ⟨w.heap.size, 0, none⟩) 0 0) 0 [] * (pgsA (.slice (some ⟨g, 0, none⟩) l.length cap) l * F)) from
    rowA_mk' (cur := #[]) (Holds.alloc (w := w.drew) hw (.cells #[] 168)) (Nat.le_refl _) (Nat.zero_le _) rfl rfl)
  have P1 := Lib.hid (pgs_part (HA.out.right) 0 k (by omega))
  have P2 := Lib.hid (fun (wq : World) (G : Asr) (h : Holds wq (G * (pgsA (.slice (some ⟨g, 0, none⟩) l.length cap) l * F))) => pgs_part h.right (k + 1) (l.length - (k + 1)) (by omega))
  have ER : Hid (((l.drop 0).take k).flatMap pEnc ++ ((l.drop (k + 1)).take (l.length - (k + 1))).flatMap pEnc = (l.eraseIdx k).flatMap pEnc) := by
    show _ = _
    rw [List.eraseIdx_eq_take_drop_succ, List.flatMap_append, List.drop_zero, List.take_of_length_le (by simp : (l.drop (k + 1)).length ≤ l.length - (k + 1))]
  have N1 : Hid ((((l.drop 0).take k).flatMap pEnc).length = k * 2) := by show _ = _; rw [pEnc_flat]; simp; omega
  have N2 : Hid ((((l.drop (k + 1)).take (l.length - (k + 1))).flatMap pEnc).length = (l.length - (k + 1)) * 2) := by show _ = _; rw [pEnc_flat]; simp
  have O1 := Lib.hid (pEnc_one ((l.drop 0).take k))
  have O2 := Lib.hid (pEnc_one ((l.drop (k + 1)).take (l.length - (k + 1))))
  have LE : Hid ((l.eraseIdx k).length = 0 + k + (l.length - (k + 1))) := by show _ = _; rw [List.length_eraseIdx]; split <;> omega
  obtain ⟨n, hn⟩ : ∃ n, l.length = n := ⟨_, rfl⟩
  obtain ⟨r, hr⟩ : ∃ r, n - (k + 1) = r := ⟨_, rfl⟩
  rw [hn, hr] at N2 O2 ER LE
  simp only [hn, hr] at P2
  have HN := Lib.hid hn
  have hkn : k < n := by rw [← hn]; exact hk
  have hn9 : n ≤ 100000 := by rw [← hn]; exact hl
  have hcn : n ≤ cap := by rw [← hn]; exact hcap
  have hr9 : r ≤ 100000 := by omega
  have hrn : k + 1 + r = n := by omega
  rw [hn]
  simp only [hn] at HA P1
  have kc : k ≤ cap := by omega
  have kc1 : k + 1 ≤ n := by omega
  have kc2 : k + 1 ≤ cap := by omega
  have k0 : (0 : Int) ≤ (k : Int) := by omega
  have k2 : (0 : Int) ≤ (k : Int) + 1 := by omega
  have k3 : (k : Int) ≤ (k : Int) + 1 := by omega
  have k1 : (k : Int) + 1 ≤ (n : Int) := by omega
  have kw : IntKind.i64.wrap ((k : Int) + 1) = (k : Int) + 1 := IntWalk.i64_in _ (by omega)
  have hc0 : Hid (Holds w (pgsA (.slice (some ⟨g, 0, none⟩) n cap) l * F)) := by show Holds _ _; rw [← hn]; exact hw
  clear hw hn hk hl hcap
  by_cases hc : k + 1 = cap
  · obtain rfl : k + 1 = n := by omega
    obtain rfl : 0 = r := by omega
    subst hc
    go_enter Try.func89, Try.ntmps89
    go_wp2_with fail
    go_region_law (first
      | (refine step_append_sep rfl _ _ 69 rfl 168 (.agg #[.int .i64 0, .bool false]) 2 16 Try.underlying69 infoP rfl (by rfl) HA.out ⟨g, 0, none⟩ k _ _ (by rfl) N1.out P1.out O1.out (by unfold maxLen; omega) (by omega) ?_; intro va wa ha sa ea)
      | (refine step_append_sep rfl _ _ 69 rfl 168 (.agg #[.int .i64 0, .bool false]) 2 16 Try.underlying69 infoP rfl (by rfl) ha ⟨g, 0, none⟩ 0 0 _ (by rfl) N2.out (by simp) O2.out (by unfold maxLen; omega) (by omega) ?_; intro vb wb hb sb eb))
    all_goals
      have HB : Hid (Holds wb (pgsA vb (l.eraseIdx k) * (pgsA (.slice (some ⟨g, 0, none⟩) (k + 1) (k + 1)) l * F))) := by
        show Holds _ _
        unfold pgsA rowL at hb ⊢
        rw [LE.out, ← ER.out]
        exact hb
      have SB : Hid (Sm w wb) := (((Sm.refl w).drew.alloc _).trans sa).trans sb
      clear ha sa ea hb sb eb P1 P2 HA
      go_wp2_with fail
      go_ret
      exact ⟨_, rfl, HB.out, SB.out⟩
  · have hc1 : ¬ (cap = k + 1) := fun e => hc e.symm
    clear hrn
    go_enter Try.func89, Try.ntmps89
    go_wp2_with fail
    go_region_law (first
      | (refine step_append_sep rfl _ _ 69 rfl 168 (.agg #[.int .i64 0, .bool false]) 2 16 Try.underlying69 infoP rfl (by rfl) HA.out ⟨g, 0, none⟩ k _ _ (by rfl) N1.out P1.out O1.out (by unfold maxLen; omega) (by omega) ?_; intro va wa ha sa ea)
      | (refine step_append_sep rfl _ _ 69 rfl 168 (.agg #[.int .i64 0, .bool false]) 2 16 Try.underlying69 infoP rfl (by rfl) ha ⟨g, (k + 1) * 2, none⟩ r (cap - (k + 1)) _ (by rfl) N2.out (P2.out _ _ ha) O2.out (by unfold maxLen; omega) (by omega) ?_; intro vb wb hb sb eb))
    all_goals
      have HB : Hid (Holds wb (pgsA vb (l.eraseIdx k) * (pgsA (.slice (some ⟨g, 0, none⟩) n cap) l * F))) := by
        show Holds _ _
        unfold pgsA rowL at hb ⊢
        rw [LE.out, ← ER.out]
        exact hb
      have SB : Hid (Sm w wb) := (((Sm.refl w).drew.alloc _).trans sa).trans sb
      clear ha sa ea hb sb eb P1 P2 HA
      go_wp2_with fail
      go_ret
      exact ⟨_, rfl, HB.out, SB.out⟩
#print axioms out_calls

end Go.Proofs.Ytmaoboepmbioiaa.Clock
