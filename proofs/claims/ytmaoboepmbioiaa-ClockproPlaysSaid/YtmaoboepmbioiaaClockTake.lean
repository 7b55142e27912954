/-
  Layer 19: what take does to a ring.
-/
import Derived.Test.YtmaoboepmbioiaaClockMem
import Derived.LaidEqlPtr
namespace Go.Proofs.Ytmaoboepmbioiaa.Clock
open Go.RowKit Go.Sep
set_option maxRecDepth 100000
set_option linter.unusedVariables false
set_option linter.unusedSimpArgs false

theorem infoPg : ∃ j, Try.prog.info? 162 = some j ∧ j.size ≠ 0 := by
  have h : (Try.prog.info? 162).map (fun i => i.size) = some 5 := by kernel_rfl
  cases hi : Try.prog.info? 162 with
  | none => simp [hi] at h
  | some j => simp [hi] at h; exact ⟨j, rfl, by omega⟩
theorem nodes_heap {w : World} {f : Nat → Nd} {bs : List Nat} {F : Asr} {b : Nat} (h : Holds w (nodesA f bs * F)) (hb : b ∈ bs) (hn : bs.Nodup) : w.heap[b]? = some (.cells (f b).cs 162 (0, 0)) := by
  obtain ⟨X, hX⟩ := nodes_at hb hn
  obtain ⟨-, e2⟩ := hX f f fun k hk => rfl
  rw [e2, star_assoc] at h
  exact Holds.at h
theorem page_same (w : World) (x : Nat) : (binOp .eql 153 (.pointer (some ⟨x, 0, none⟩)) (.pointer (some ⟨x, 0, none⟩))).run Try.prog w = .ok (.bool true) w := by
  obtain ⟨j, h, -⟩ := infoPg
  exact run_eql_ptr_same w _ Try.underlying153 h
theorem page_other {w : World} {f : Nat → Nd} {bs : List Nat} {F : Asr} {x p : Nat} (h : Holds w (nodesA f bs * F)) (hx : x ∈ bs) (hp : p ∈ bs) (hn : bs.Nodup) (hne : x ≠ p) : (binOp .eql 153 (.pointer (some ⟨x, 0, none⟩)) (.pointer (some ⟨p, 0, none⟩))).run Try.prog w = .ok (.bool false) w := by
  obtain ⟨j, hj, hz⟩ := infoPg
  exact run_eql_ptr_other w Try.underlying153 hj hz (by simp [hne]) (nodes_heap h hx hn) (nodes_heap h hp hn)

set_option maxHeartbeats 2000000 in
theorem take_calls (r p : Nat) (f : Nat → Nd) (bs A B : List Nat) (F : Asr) (w : World) (hn : bs.Nodup) (hl : ∀ b ∈ A ++ p :: B, b ∈ bs) (hln : (A ++ p :: B).Nodup) (hrg : Rg f (A ++ p :: B)) (hsz : (A ++ p :: B).length ≤ 10000)
    (hw : Holds w (ringA r (A ++ p :: B) * (nodesA f bs * F))) :
    Calls Try.prog 110 #[pa r, pa p] w (Put r f bs (A ++ p :: B) (A ++ B) (A ++ B) F w) := by
  have r0 := hw.cell 0
  have r1 := hw.cell 1
  have rf := hw.frozen
  have rf0 := rf 0
  have rf1 := rf 1
  have rl := hw.lt
  have hw2 := hw.eqv (star_left_comm _ _ _)
  have hp : p ∈ bs := hl p (by simp)
  obtain ⟨n, hnl⟩ : ∃ n, (A ++ p :: B).length = n := ⟨_, rfl⟩
  rw [hnl] at r1 hsz
  have hb : (0 : Int) ≤ (n : Int) := by omega
  have hb2 : (n : Int) ≤ 10000 := by omega
  have hs1 := ring_count hw ((n : Int) - 1)
  unfold pa
  by_cases hne : A ++ B = []
  · obtain ⟨rfl, rfl⟩ := List.append_eq_nil_iff.1 hne
    obtain rfl : 1 = n := by simpa using hnl
    have hs4 := Holds.store hs1 0 (pt none)
    have H4 := Lib.hid hs4
    clear hs1 hs4 hw hw2 rf hrg hln hn hl hnl hp hne
    go_enter Try.func110, Try.ntmps110
    go_wp2_with fail
    go_end0
    exact ⟨rfl, f, trivial, kept_refl _ _, H4.out, ((Sm.refl w).setCell _ _).setCell _ _⟩
  · have hr' := (rg_rotate f A (p :: B)).1 hrg
    obtain ⟨y, C, hy⟩ : ∃ y C, B ++ A = y :: C := by
      cases h : B ++ A with
      | nil => obtain ⟨rfl, rfl⟩ := List.append_eq_nil_iff.1 h; exact absurd rfl hne
      | cons y C => exact ⟨y, C, rfl⟩
    have hr2 : Rg f (p :: y :: C) := by rw [← hy]; exact hr'
    have hn2 : (p :: y :: C).Nodup := by rw [← hy]; exact (List.perm_append_comm.nodup_iff).1 hln
    obtain ⟨D, z, hD⟩ : ∃ D z, y :: C = D ++ [z] := ⟨(y :: C).dropLast, (y :: C).getLast (by simp), (List.dropLast_concat_getLast (by simp)).symm⟩
    obtain ⟨k1, k2, k3⟩ := rg_last (A := p :: D) (z := z) (by rw [hD]; rfl) hr2
    have k4 : (f p).nxt = some y := hr2.1
    have hin : ∀ b ∈ y :: C, b ∈ A ++ B := fun b hb => by rw [← hy] at hb; simp only [List.mem_append] at hb ⊢; exact hb.symm
    have hin2 : ∀ b ∈ A ++ B, b ∈ bs := fun b hb => hl b (by simp only [List.mem_append, List.mem_cons] at hb ⊢; rcases hb with h | h <;> simp [h])
    have hya : y ∈ A ++ B := hin y (by simp)
    have hza : z ∈ A ++ B := hin z (by rw [hD]; simp)
    have hym := hin2 y hya
    have hzm := hin2 z hza
    have hpy : p ≠ y := fun e => (List.nodup_cons.1 hn2).1 (by rw [e]; simp)
    have hpz : p ≠ z := fun e => (List.nodup_cons.1 hn2).1 (by rw [hD, e]; simp)
    have p3 := nodes_cell hw2 hp hn 3
    have p4 := nodes_cell hw2 hp hn 4
    have pf3 := nodes_frozen hw2 hp hn 3
    have pf4 := nodes_frozen hw2 hp hn 4
    have pl := nodes_lt hw2 hp hn
    have y4 := nodes_cell hw2 hym hn 4
    have yf4 := nodes_frozen hw2 hym hn 4
    have z3 := nodes_cell hw2 hzm hn 3
    have zf3 := nodes_frozen hw2 hzm hn 3
    have yl := nodes_lt hw2 hym hn
    have zl := nodes_lt hw2 hzm hn
    simp only [Nd.cs] at p3 p4 y4 z3
    simp [pt, k3] at p4
    simp [pt, k4] at p3
    have hs3 := nodes_lst (nodes_nxt (hs1.eqv (star_left_comm _ _ _)) hzm hn (some y)) hym hn (some z)
    have RG := Lib.hid (ring_take (f' := setP (setN f z (some y)) y (some z)) hln hne hrg k4 k3 (by simp only [setN, setP, up]; split <;> simp_all) (by simp [setN, setP, up])
      (fun b h1 => by simp only [setN, setP, up]; repeat' split
                      all_goals simp_all) (fun b h1 => by simp only [setN, setP, up]; repeat' split
                                                          all_goals simp_all))
    have KP := Lib.hid (kept_setP (kept_setN (kept_refl f (A ++ B)) hza (some y)) hya (some z))
    have hn3 : n = (A ++ B).length + 1 := by rw [← hnl]; simp; omega
    have hpos : 0 < (A ++ B).length := by
      rcases h : A ++ B with _ | _
      · exact absurd h hne
      · simp
    have d0 : ((n : Int) - 1 == 0) = false := by simp; omega
    have HN : Hid ((n : Int) - 1 = ((A ++ B).length : Int)) := by show _ = _; omega
    cases A with
    | nil =>
      have hs4 := Holds.store (hs3.eqv (star_left_comm _ _ _)) 0 (pa y)
      have H4 := Lib.hid hs4
      have HY : Hid (B.head? = some y) := by show _ = _; rw [List.append_nil] at hy; rw [hy]; rfl
      simp only [List.nil_append, List.head?_cons, pt, Option.map_some] at r0
      have EQ := page_same ((((w.setCell ⟨r, 1, none⟩ (.int .i64 ((n : Int) - 1))).setCell ⟨z, 3, none⟩ (.pointer (some ⟨y, 0, none⟩))).setCell ⟨y, 4, none⟩ (.pointer (some ⟨z, 0, none⟩))).drew) p
      clear hs1 hs3 hs4 hw hw2 rf hrg hln hn hl hnl hp hne hr' hy hr2 hn2 hD k1 k2 k3 k4 hin hin2 hya hza hym hzm hn3 hpos
      go_enter Try.func110, Try.ntmps110
      go_wp2_with fail
      go_region
      go_wp2_with fail
      go_end0
      exact ⟨rfl, _, RG.out, KP.out, H4.out.eqv (by unfold ringA; rw [HN.out]; simp [pt, pa, HY.out]), (((((Sm.refl w).setCell _ _).setCell _ _).setCell _ _).setCell _ _).drew⟩
    | cons x A =>
      have hpx : x ≠ p := by
        rintro rfl
        exact (List.nodup_cons.1 hln).1 (by simp)
      have H3 := Lib.hid (hs3.eqv (star_left_comm _ _ _))
      simp only [List.cons_append, List.head?_cons, pt, Option.map_some] at r0
      have EQ := page_other (w := ((((w.setCell ⟨r, 1, none⟩ (.int .i64 ((n : Int) - 1))).setCell ⟨z, 3, none⟩ (.pointer (some ⟨y, 0, none⟩))).setCell ⟨y, 4, none⟩ (.pointer (some ⟨z, 0, none⟩))).drew)) hs3 (hl x (by simp)) hp hn hpx
      clear hs1 hs3 hw hw2 rf hrg hln hn hl hnl hp hne hr' hy hr2 hn2 hD k1 k2 k3 k4 hin hin2 hya hza hym hzm hn3 hpos
      go_enter Try.func110, Try.ntmps110
      go_wp2_with fail
      go_region
      go_wp2_with fail
      go_end0
      exact ⟨rfl, _, RG.out, KP.out, H3.out.eqv (by unfold ringA; rw [HN.out]; simp), ((((Sm.refl w).setCell _ _).setCell _ _).setCell _ _).drew⟩
#print axioms take_calls
end Go.Proofs.Ytmaoboepmbioiaa.Clock
