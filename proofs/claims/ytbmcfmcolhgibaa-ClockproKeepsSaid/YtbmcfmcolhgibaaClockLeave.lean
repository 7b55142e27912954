/-
  ClockproKeeps: what 'leave' does.
-/
import Derived.Test.YtbmcfmcolhgibaaReg
import Derived.Test.YtbmcfmcolhgibaaClockIds
namespace Go.Proofs.Ytbmcfmcolhgibaa.Clock
open Go.RowKit Go.Sep
set_option maxRecDepth 100000
set_option linter.unusedVariables false
set_option linter.unusedSimpArgs false

def intsA (v : Value) (l : List Int) : Asr := rowL 3 1 iEnc v l
def boxA (b : Nat) (v : Value) : Asr := pts b (.cells #[v] 28 (0, 0))
theorem iEnc_flat (l : List Int) : (l.flatMap iEnc).length = l.length := by
  have := flat_size (enc := iEnc) (l := l) (fun _ => rfl)
  simpa [flat] using this
theorem iEnc_get (l : List Int) (j : Nat) : (l.flatMap iEnc)[j]? = (l[j]?).map (Value.int .i64) := by
  have : l.flatMap iEnc = l.map (Value.int .i64) := by
    induction l with
    | nil => rfl
    | cons x l ih => simp [iEnc, ih]
  rw [this, List.getElem?_map]
theorem ints_cell {w : World} {v : Value} {l : List Int} {F : Asr} (h : Holds w (intsA v l * F)) (i : Nat) (hi : i < l.length) :
    ∃ g cap, v = .slice (some ⟨g, 0, none⟩) l.length cap ∧ l.length ≤ cap ∧ g < w.heap.size ∧ w.cell? ⟨g, i, none⟩ = some (.int .i64 l[i]) := by
  obtain ⟨g, cap, h1, h2, h3, h4, h5⟩ := rowL_cell h (fun _ => rfl) i hi
  have := h4 0 (by omega)
  simp [iEnc] at this
  exact ⟨g, cap, h1, h2, h3, this⟩
theorem ints_slice {w : World} {v : Value} {l : List Int} {F : Asr} (h : Holds w (intsA v l * F)) : ∃ ao cap, v = .slice ao l.length cap ∧ l.length ≤ cap ∧ cap ≤ maxLen := by
  rcases (rowA_cases h).2 with ⟨rfl, hl, -⟩ | ⟨g, cap, cur, rfl, h1, h2, -⟩
  · rw [hl]; exact ⟨none, 0, rfl, Nat.le_refl _, Nat.zero_le _⟩
  · exact ⟨_, cap, rfl, h1, h2⟩
theorem ints_part {w : World} {g cap : Nat} {l : List Int} {F : Asr} (h : Holds w (intsA (.slice (some ⟨g, 0, none⟩) l.length cap) l * F)) (a m : Nat) (ham : a + m ≤ l.length) :
    ∀ j u, (((l.drop a).take m).flatMap iEnc)[j]? = some u → w.cell? ((⟨g, a, none⟩ : Addr).add j) = some u := by
  intro j u hu
  rw [iEnc_get] at hu
  obtain ⟨x, hx, rfl⟩ := Option.map_eq_some_iff.1 hu
  obtain ⟨hj, he⟩ := List.getElem?_eq_some_iff.1 hx
  have hj' : j < m := by simp at hj; omega
  simp only [List.getElem_take, List.getElem_drop] at he
  obtain ⟨g', cap', e, -, -, c0⟩ := ints_cell h (a + j) (by omega)
  simp at e
  obtain ⟨rfl, -⟩ := e
  rw [Addr.add_lit, c0, he]
theorem iEnc_one (l : List Int) : ∀ u ∈ l.flatMap iEnc, u.oneCell' = true := by
  intro u hu
  obtain ⟨p, -, hp⟩ := List.mem_flatMap.1 hu
  simp [iEnc] at hp
  rw [hp]; rfl
theorem erase_at : ∀ (l : List Int) (p : Int) (k : Nat) (hk : k < l.length), l[k] = p → (∀ j (h : j < k), l[j] ≠ p) → l.erase p = l.eraseIdx k
  | [], _, k, hk, _, _ => by simp at hk
  | x :: l, p, 0, hk, h, hno => by simp at h; subst h; simp
  | x :: l, p, k + 1, hk, h, hno => by
    have hx : x ≠ p := hno 0 (by omega)
    simp only [List.length_cons, Nat.add_lt_add_iff_right] at hk
    rw [List.erase_cons_tail (by simpa using hx), List.eraseIdx_cons_succ, erase_at l p k hk (by simpa using h) fun j hj => by have := hno (j + 1) (by omega); simpa using this]
def LeaveC (b : Nat) (l : List Int) (p : Int) (F : Asr) (w : World) (e : Ending) (w' : World) : Prop :=
  e = .returned (.bool (decide (p ∈ l))) ∧ ∃ v', Holds w' (boxA b v' * (intsA v' (l.erase p) * F)) ∧ Sm w w'
theorem box_seen {w : World} {b n : Nat} {v v' : Value} {xs : List Value} {G : Asr} (H : Holds w (rowA 3 1 v' n xs * (boxA b v * G))) : w.cell? ⟨b, 0, none⟩ = some v ∧ w.frozen? ⟨b, 0, none⟩ = false ∧ b < w.heap.size := by
  have hh := H.eqv (star_left_comm _ _ _)
  exact ⟨hh.cell 0, hh.frozen 0, hh.lt⟩

set_option maxHeartbeats 4000000 in
theorem leave_calls (b : Nat) (v : Value) (l : List Int) (p : Int) (F : Asr) (w : World) (hl : l.length ≤ 100000) (hw : Holds w (boxA b v * (intsA v l * F))) :
    Calls Try.prog 49 #[.int .i64 p, .pointer (some ⟨b, 0, none⟩)] w (LeaveC b l p F w) := by
  have hrow := hw.eqv (star_left_comm _ _ _)
  obtain ⟨ao, cap, rfl, hcap, hmax⟩ := ints_slice hrow
  have HC := Lib.hid (fun k hk => ints_cell hrow k hk)
  have HW := Lib.hid hw
  have b0 := hw.cell 0
  have bf := hw.frozen 0
  have bl := hw.lt
  simp at b0
  have hmax' : cap ≤ 9223372036854775807 := by unfold maxLen at hmax; omega
  obtain ⟨n, hn⟩ : ∃ n, l.length = n := ⟨_, rfl⟩
  have HN := Lib.hid hn
  rw [hn] at hcap hl b0
  clear hw hn hrow hmax
  go_enter Try.func49, Try.ntmps49
  go_wp2_with fail
  go_loopw [4] (fun x wr => ∃ k : Nat, k ≤ n ∧ x = .int .i64 k ∧ Hid (wr = w) ∧ Hid (∀ j (h : j < k) (h' : j < l.length), l[j] ≠ p)) (fun x _ => n - (intOf x).toNat)
  case atStart => exact ⟨0, Nat.zero_le _, rfl, rfl, fun j h => by omega⟩
  case round =>
    obtain ⟨k, hk, rfl, hwr, hno⟩ := hrel
    obtain rfl : wr = w := hwr.out
    clear hwr
    by_cases hlt : k < n
    · have hkl : k < l.length := by rw [HN.out]; exact hlt
      obtain ⟨g, cap', hv, -, hg, c0⟩ := HC.out k hkl
      simp at hv
      obtain ⟨rfl, -, -⟩ := hv
      have e0 : (0 : Int) ≤ (k : Int) := by omega
      have e1 : (k : Int) < (n : Int) := by omega
      by_cases hc : l[k] = p
      · have d0 : (l[k] == p) = true := by simpa using hc
        have D : Hid (decide (p ∈ l) = true) := by show _ = _; simpa using hc ▸ List.getElem_mem hkl
        have EE : Hid (l.erase p = l.eraseIdx k) := erase_at l p k hkl hc fun j hj => hno.out j hj (by omega)
        have HA := Lib.hid (show Holds (wr.drew.alloc (.cells #[] 3)) (rowA 3 1 (.slice (some ⟨wr.heap.size, 0, none⟩) 0 0) 0 [] * (boxA b (.slice (some ⟨g, 0, none⟩) l.length cap) * (intsA (.slice (some ⟨g, 0, none⟩) l.length cap) l * F))) from
          rowA_mk' (cur := #[]) (Holds.alloc (w := wr.drew) HW.out (.cells #[] 3)) (Nat.le_refl _) (Nat.zero_le _) rfl rfl)
        have P1 := Lib.hid (ints_part (HA.out.right.right) 0 k (by omega))
        have P2 := Lib.hid (fun (wq : World) (G G' : Asr) (h : Holds wq (G * (G' * (intsA (.slice (some ⟨g, 0, none⟩) l.length cap) l * F)))) => ints_part h.right.right (k + 1) (l.length - (k + 1)) (by omega))
        have ER : Hid (((l.drop 0).take k).flatMap iEnc ++ ((l.drop (k + 1)).take (l.length - (k + 1))).flatMap iEnc = (l.erase p).flatMap iEnc) := by
          show _ = _
          rw [EE.out, List.eraseIdx_eq_take_drop_succ, List.flatMap_append, List.drop_zero, List.take_of_length_le (by simp : (l.drop (k + 1)).length ≤ l.length - (k + 1))]
        have N1 : Hid ((((l.drop 0).take k).flatMap iEnc).length = k * 1) := by show _ = _; rw [iEnc_flat]; simp; omega
        have N2 : Hid ((((l.drop (k + 1)).take (l.length - (k + 1))).flatMap iEnc).length = (l.length - (k + 1)) * 1) := by show _ = _; rw [iEnc_flat]; simp
        have O1 := Lib.hid (iEnc_one ((l.drop 0).take k))
        have O2 := Lib.hid (iEnc_one ((l.drop (k + 1)).take (l.length - (k + 1))))
        have LE : Hid ((l.erase p).length = 0 + k + (l.length - (k + 1))) := by show _ = _; rw [EE.out, List.length_eraseIdx]; split <;> omega
        obtain ⟨r, hr⟩ : ∃ r, n - (k + 1) = r := ⟨_, rfl⟩
        rw [HN.out, hr] at N2 O2 ER LE
        simp only [HN.out, hr] at P2
        simp only [HN.out] at HA P1
        have kc : k ≤ cap := by omega
        have kc1 : k + 1 ≤ n := by omega
        have kc2 : k + 1 ≤ cap := by omega
        have k2 : (0 : Int) ≤ (k : Int) + 1 := by omega
        have k3 : (k : Int) ≤ (k : Int) + 1 := by omega
        have k1 : (k : Int) + 1 ≤ (n : Int) := by omega
        have kw : IntKind.i64.wrap ((k : Int) + 1) = (k : Int) + 1 := IntWalk.i64_in _ (by omega)
        have hr9 : r ≤ 100000 := by omega
        have hk9 : k ≤ 100000 := by omega
        have hrn : k + 1 + r = n := by omega
        clear hc hno EE HC
        by_cases hcc : k + 1 = cap
        · obtain rfl : k + 1 = n := by omega
          obtain rfl : 0 = r := by omega
          subst hcc
          go_wp2_with fail
          go_region_law (first
            | (refine step_append_sep rfl _ _ 28 rfl 3 (.int .i64 0) 1 8 Try.underlying28 infoI rfl (by rfl) HA.out ⟨g, 0, none⟩ k _ _ (by rfl) N1.out P1.out O1.out (by unfold maxLen; omega) (by omega) ?_; intro va wa ha sa ea; obtain ⟨a0, af, al⟩ := box_seen ha)
            | (refine step_append_sep rfl _ _ 28 rfl 3 (.int .i64 0) 1 8 Try.underlying28 infoI rfl (by rfl) ha ⟨g, 0, none⟩ 0 0 _ (by rfl) N2.out (by simp) O2.out (by unfold maxLen; omega) (by omega) ?_; intro vb wb hb sb eb; obtain ⟨aob, cpb, hvb, -⟩ := rowA_slice hb; subst hvb; obtain ⟨x0, xf, xl⟩ := box_seen hb))
          all_goals
            have hc1 := Holds.store (hb.eqv (star_left_comm _ _ _) : Holds wb (boxA b _ * _)) 0 (.slice aob (0 + k + 0) cpb)
            have HB : Hid (Holds (wb.setCell ⟨b, 0, none⟩ (.slice aob (0 + k + 0) cpb)) (boxA b (.slice aob (0 + k + 0) cpb) * (intsA (.slice aob (0 + k + 0) cpb) (l.erase p) * F))) := by
              show Holds _ _
              have h2 : Holds (wb.setCell ⟨b, 0, none⟩ (.slice aob (0 + k + 0) cpb)) (boxA b (.slice aob (0 + k + 0) cpb) * (rowA 3 1 (.slice aob (0 + k + 0) cpb) (0 + k + 0) ([] ++ ((l.drop 0).take k).flatMap iEnc ++ ((l.drop (k + 1)).take 0).flatMap iEnc) * (intsA (.slice (some ⟨g, 0, none⟩) (k + 1) (k + 1)) l * F))) := hc1
              rw [List.nil_append, ER.out] at h2
              refine Holds.right (A := intsA (.slice (some ⟨g, 0, none⟩) (k + 1) (k + 1)) l) (h2.eqv ?_)
              unfold intsA rowL
              rw [LE.out]
              ac_rfl
            have SB : Hid (Sm wr (wb.setCell ⟨b, 0, none⟩ (.slice aob (0 + k + 0) cpb))) := ((((Sm.refl wr).drew.alloc _).trans sa).trans sb).setCell _ _
            clear ha sa ea hb sb eb hc1 P1 P2 HA
            simp only [Nat.zero_add, Nat.add_zero] at HB SB
            go_wp2_with fail
            go_ret
            exact ⟨by rw [D.out]; rfl, _, HB.out, SB.out⟩
        · have hc1' : ¬ (cap = k + 1) := fun e => hcc e.symm
          clear hrn
          go_wp2_with fail
          go_region_law (first
            | (refine step_append_sep rfl _ _ 28 rfl 3 (.int .i64 0) 1 8 Try.underlying28 infoI rfl (by rfl) HA.out ⟨g, 0, none⟩ k _ _ (by rfl) N1.out P1.out O1.out (by unfold maxLen; omega) (by omega) ?_; intro va wa ha sa ea; obtain ⟨a0, af, al⟩ := box_seen ha)
            | (refine step_append_sep rfl _ _ 28 rfl 3 (.int .i64 0) 1 8 Try.underlying28 infoI rfl (by rfl) ha ⟨g, k + 1, none⟩ r (cap - (k + 1)) _ (by rfl) N2.out (P2.out _ _ _ ha) O2.out (by unfold maxLen; omega) (by omega) ?_; intro vb wb hb sb eb; obtain ⟨aob, cpb, hvb, -⟩ := rowA_slice hb; subst hvb; obtain ⟨x0, xf, xl⟩ := box_seen hb))
          all_goals
            have hc1 := Holds.store (hb.eqv (star_left_comm _ _ _) : Holds wb (boxA b _ * _)) 0 (.slice aob (0 + k + r) cpb)
            have HB : Hid (Holds (wb.setCell ⟨b, 0, none⟩ (.slice aob (0 + k + r) cpb)) (boxA b (.slice aob (0 + k + r) cpb) * (intsA (.slice aob (0 + k + r) cpb) (l.erase p) * F))) := by
              show Holds _ _
              have h2 : Holds (wb.setCell ⟨b, 0, none⟩ (.slice aob (0 + k + r) cpb)) (boxA b (.slice aob (0 + k + r) cpb) * (rowA 3 1 (.slice aob (0 + k + r) cpb) (0 + k + r) ([] ++ ((l.drop 0).take k).flatMap iEnc ++ ((l.drop (k + 1)).take r).flatMap iEnc) * (intsA (.slice (some ⟨g, 0, none⟩) n cap) l * F))) := hc1
              rw [List.nil_append, ER.out] at h2
              refine Holds.right (A := intsA (.slice (some ⟨g, 0, none⟩) n cap) l) (h2.eqv ?_)
              unfold intsA rowL
              rw [LE.out]
              ac_rfl
            have SB : Hid (Sm wr (wb.setCell ⟨b, 0, none⟩ (.slice aob (0 + k + r) cpb))) := ((((Sm.refl wr).drew.alloc _).trans sa).trans sb).setCell _ _
            clear ha sa ea hb sb eb hc1 P1 P2 HA
            simp only [Nat.zero_add, Nat.add_zero] at HB SB
            go_wp2_with fail
            go_ret
            exact ⟨by rw [D.out]; rfl, _, HB.out, SB.out⟩
      · have d0 : (l[k] == p) = false := by simpa using hc
        have hno' : Hid (∀ j (h : j < k + 1) (h' : j < l.length), l[j] ≠ p) := by
          intro j h h'
          by_cases e : j = k
          · subst e; exact hc
          · exact hno.out j (by omega) h'
        clear hc
        go_wp2_with fail
        go_roundw
        case rel => exact ⟨k + 1, by omega, by go_num, by first | trivial | exact Lib.hid rfl, hno'⟩
        case measure => simp [intOf]; omega
    · obtain rfl : n = k := by omega
      have hnm : p ∉ l := fun h => by
        obtain ⟨j, hj, e⟩ := List.getElem_of_mem h
        exact hno.out j (by rw [← HN.out]; exact hj) hj e
      have D : Hid (decide (p ∈ l) = false) := by show _ = _; simpa using hnm
      have ER : Hid (l.erase p = l) := List.erase_of_not_mem hnm
      clear hnm
      go_wp2_with fail
      go_ret
      exact ⟨by rw [D.out]; rfl, _, by rw [ER.out]; exact HW.out, Sm.refl _⟩
#print axioms leave_calls
end Go.Proofs.Ytbmcfmcolhgibaa.Clock
