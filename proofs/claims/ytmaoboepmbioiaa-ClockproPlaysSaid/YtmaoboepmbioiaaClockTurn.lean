/-
  Layer 19: Count, Target, there, turnHot.
-/
import Derived.Test.YtmaoboepmbioiaaClockRel
namespace Go.Proofs.Ytmaoboepmbioiaa.Clock
open Go.RowKit Go.Sep
set_option maxRecDepth 100000
set_option linter.unusedVariables false
set_option linter.unusedSimpArgs false

/-- what a reader is told of a ring -/
theorem ring_cells {w : World} {D : Raw} {S : CS} {F : Asr} (hr : Rel D S) (hw : Holds w (rawA D * F)) (k : Int) (hk : isK k) :
    w.cell? ⟨D.rb k, 0, none⟩ = some (pt (D.L k).head?) ∧ w.cell? ⟨D.rb k, 1, none⟩ = some (.int .i64 ((listS S k).length : Nat)) ∧ D.rb k < w.heap.size := by
  obtain ⟨X, h1, -⟩ := ring_focus hw k hk
  refine ⟨by rw [h1.cell]; rfl, ?_, h1.lt⟩
  rw [h1.cell, ← hr.list k]
  simp
theorem count_raw (D : Raw) (S : CS) (F : Asr) (w : World) (k : Int) (hk : okK k) (hr : Rel D S) (hw : Holds w (rawA D * F)) :
    Calls Try.prog 43 #[.pointer (some ⟨D.a, 0, none⟩), .int .i64 k] w fun e w' => e = .returned (.int .i64 ((listS S k).length : Nat)) ∧ w = w' := by
  have hh := raw_hd hw
  have a2 := hh.cell 2
  have al := hh.lt
  simp at a2
  have N0 := Lib.hid (none_raw D F w hw)
  by_cases hik : isK k
  · obtain ⟨c0, c1, c2⟩ := ring_cells hr hw k hik
    have lk := look_ring hw k hik
    obtain ⟨n, hn⟩ : ∃ n, (listS S k).length = n := ⟨_, rfl⟩
    rw [hn] at c1 ⊢
    clear hh hw hr hik hn c0
    go_enter Try.func43, Try.ntmps43
    go_wp2_with (go_at_call 83; refine (N0.out).mono ?_; rintro e w' ⟨rfl, rfl⟩)
    go_ret
    exact ⟨rfl, rfl⟩
  · have lk := mapA_look false intK Try.underlying156 (z := .pointer none) (fun w => by kernel_rfl) (raw_R hw) k hk
    have h1 : k ≠ 1 := fun e => hik (.inl e)
    have h2 : k ≠ 2 := fun e => hik (.inr (.inl e))
    have h3 : k ≠ 3 := fun e => hik (.inr (.inr e))
    have e : listS S k = [] := by simp [listS, h1, h2, h3]
    simp [rmE, getK, iK, Ne.symm h1, Ne.symm h2, Ne.symm h3] at lk
    rw [e]
    clear hh hw hr hik e h1 h2 h3
    go_enter Try.func43, Try.ntmps43
    go_wp2_with (go_at_call 83; refine (N0.out).mono ?_; rintro e w' ⟨rfl, rfl⟩)
    go_ret
    exact ⟨rfl, rfl⟩
theorem target_raw (D : Raw) (S : CS) (F : Asr) (w : World) (hr : Rel D S) (hw : Holds w (rawA D * F)) :
    Calls Try.prog 44 #[.pointer (some ⟨D.a, 0, none⟩)] w fun e w' => e = .returned (.int .i64 S.target) ∧ w = w' := by
  have hh := raw_hd hw
  have a1 := hh.cell 1
  have al := hh.lt
  simp [hr.target] at a1
  have N0 := Lib.hid (none_raw D F w hw)
  clear hh hw hr
  go_enter Try.func44, Try.ntmps44
  go_wp2_with (go_at_call 83; refine (N0.out).mono ?_; rintro e w' ⟨rfl, rfl⟩)
  go_ret
  exact ⟨rfl, rfl⟩
theorem there_raw (D : Raw) (S : CS) (F : Asr) (w : World) (hr : Rel D S) (hb : S.cold.length + S.hot.length ≤ 9000) (hw : Holds w (rawA D * F)) :
    Calls Try.prog 85 #[.pointer (some ⟨D.a, 0, none⟩)] w fun e w' => e = .returned (.int .i64 (thereS S : Nat)) ∧ ∃ n, w' = w.drewN n := by
  have hh := raw_hd hw
  have a2 := hh.cell 2
  have al := hh.lt
  simp at a2
  obtain ⟨c0, c1, c2⟩ := ring_cells hr hw 1 (.inl rfl)
  obtain ⟨d0, d1, d2⟩ := ring_cells hr hw 2 (.inr (.inl rfl))
  have lk1 : ∀ n, (Instr.lookup 156 (.map (some D.R)) (.int .i64 1) false).run Try.prog (w.drewN n) = .ok (.pointer (some ⟨D.rb 1, 0, none⟩)) (w.drewN n) := fun n => look_ring (w := w.drewN n) hw 1 (.inl rfl)
  have lk2 : ∀ n, (Instr.lookup 156 (.map (some D.R)) (.int .i64 2) false).run Try.prog (w.drewN n) = .ok (.pointer (some ⟨D.rb 2, 0, none⟩)) (w.drewN n) := fun n => look_ring (w := w.drewN n) hw 2 (.inr (.inl rfl))
  have q1 := look_ring (w := w.drew) hw 1 (.inl rfl)
  have q2 := look_ring (w := w.drew) hw 2 (.inr (.inl rfl))
  simp [listS] at c1 d1
  have TH : Hid (thereS S = S.cold.length + S.hot.length) := rfl
  obtain ⟨m, hm⟩ : ∃ n, S.cold.length = n := ⟨_, rfl⟩
  obtain ⟨n, hn⟩ : ∃ n, S.hot.length = n := ⟨_, rfl⟩
  rw [hm] at c1 TH hb
  rw [hn] at d1 TH hb
  have b0 : (0 : Int) ≤ (m : Int) := by omega
  have b1 : (0 : Int) ≤ (n : Int) := by omega
  have b2 : (m : Int) ≤ 9000 := by omega
  have b3 : (n : Int) ≤ 9000 := by omega
  have bw : IntKind.i64.wrap ((m : Int) + (n : Int)) = (m : Int) + (n : Int) := IntWalk.i64_in _ (by omega)
  clear hh hw hr hm hn hb
  go_enter Try.func85, Try.ntmps85
  go_wp2_with fail
  go_quiet (fail)
  go_wp2_with fail
  go_ret
  exact ⟨by rw [TH.out]; rfl, _, rfl⟩

/-! ### a page at its ring's head is moved -/
theorem out_head {L : Int → List Nat} {f : Nat → Nd} {bs : List Nat} (h : Wf L f bs) {p : Nat} {t : List Nat} {j : Int} (hl : L j = p :: t) : outL L p j = t ∧ ∀ i, i ≠ j → outL L p i = L i := by
  have hp : p ∈ L j := by rw [hl]; simp
  constructor
  · unfold outL
    rw [hl, List.filter_cons_of_neg (by simp)]
    have := h.ln j
    rw [hl] at this
    exact filter_no (List.nodup_cons.1 this).1
  · intro i hi
    exact filter_no fun hi' => hi ((h.kind i p hi').1.symm.trans (h.kind j p hp).1)
theorem in_mem {L : Int → List Nat} {p : Nat} {k j : Int} (hp : p ∈ L j) (b : Nat) : (∃ i, b ∈ inL (outL L p) p k i) ↔ ∃ i, b ∈ L i := by
  constructor
  · rintro ⟨i, hi⟩
    unfold inL at hi
    split at hi
    · simp only [List.mem_append, List.mem_singleton] at hi
      rcases hi with hi | rfl
      · exact ⟨i, (List.mem_filter.1 hi).1⟩
      · exact ⟨j, hp⟩
    · exact ⟨i, (List.mem_filter.1 hi).1⟩
  · rintro ⟨i, hi⟩
    by_cases e : b = p
    · subst e; exact ⟨k, by simp [inL]⟩
    · refine ⟨i, ?_⟩
      have : b ∈ outL L p i := List.mem_filter.2 ⟨hi, by simpa using e⟩
      unfold inL; split
      · simp [this]
      · exact this
def withL (S : CS) (k : Int) (l : List Pg) : CS := if k = 1 then { S with cold := l } else if k = 2 then { S with hot := l } else if k = 3 then { S with test := l } else S
theorem Rel.moved {D : Raw} {S : CS} (h : Rel D S) {p : Nat} {k j : Int} (hp : p ∈ D.L j) (hk : isK k) {f' : Nat → Nd} (hwf : Wf (inL (outL D.L p) p k) f' D.bs) (hf : ∀ b, (f' b).id = (D.f b).id ∧ (f' b).mark = (D.f b).mark) :
    Rel { D with L := inL (outL D.L p) p k, f := f' } { S with cold := (inL (outL D.L p) p k 1).map (pgOf D.f), hot := (inL (outL D.L p) p k 2).map (pgOf D.f), test := (inL (outL D.L p) p k 3).map (pgOf D.f) } := by
  have e : pgOf f' = pgOf D.f := funext fun b => by simp [pgOf, hf b]
  have hids : ∀ i b, b ∈ inL (outL D.L p) p k i → ∃ i, b ∈ D.L i := fun i b hb => (in_mem hp b).1 ⟨i, hb⟩
  refine ⟨hwf, h.most, h.target, by simp only [e], by simp only [e], by simp only [e], fun i b => ?_, fun i b hb => ?_⟩
  · rw [h.pages i b]
    simp only [hf]
    constructor
    · rintro ⟨q, hq, hi⟩
      obtain ⟨q', hq'⟩ := (in_mem (k := k) hp b).2 ⟨q, hq⟩
      exact ⟨q', hq', hi⟩
    · rintro ⟨q, hq, hi⟩
      obtain ⟨q', hq'⟩ := hids q b hq
      exact ⟨q', hq', hi⟩
  · obtain ⟨q', hq'⟩ := hids i b hb
    simp only [hf]
    exact h.ids q' b hq'
theorem Rel.marked {D : Raw} {S : CS} (h : Rel D S) (p : Nat) (m : Bool) : Rel { D with f := up D.f p { D.f p with mark := m } }
    { S with cold := (D.L 1).map (pgOf (up D.f p { D.f p with mark := m })), hot := (D.L 2).map (pgOf (up D.f p { D.f p with mark := m })), test := (D.L 3).map (pgOf (up D.f p { D.f p with mark := m })) } := by
  have e : ∀ b, (up D.f p { D.f p with mark := m } b).id = (D.f b).id := by intro b; unfold up; split <;> simp_all
  refine ⟨h.wf.mark p m, h.most, h.target, rfl, rfl, rfl, fun i b => ?_, fun i b hb => ?_⟩
  · simp only [e]; exact h.pages i b
  · simp only [e]; exact h.ids i b hb
theorem map_up_other {f : Nat → Nd} {p : Nat} {d : Nd} {l : List Nat} (h : p ∉ l) : l.map (pgOf (up f p d)) = l.map (pgOf f) := by
  refine List.map_congr_left fun b hb => ?_
  unfold pgOf
  rw [up_other _ _ (by rintro rfl; exact h hb)]

def Now (a : Nat) (S : CS) (F : Asr) (w : World) (e : Ending) (w' : World) : Prop := e = .returned (.tuple #[]) ∧ Holds w' (ck a S * F) ∧ Sm w w'
set_option maxHeartbeats 1000000 in
theorem turnHot_calls (a : Nat) (S : CS) (F : Asr) (w : World) (hb : Bnd S) (h0 : S.hot ≠ []) (hck : Holds w (ck a S * F)) :
    Calls Try.prog 113 #[.pointer (some ⟨a, 0, none⟩)] w (Now a (turnHotS S) F w) := by
  obtain ⟨D, hr, rfl, hw⟩ := ck_open hck
  clear hck
  have hh := raw_hd hw
  have a2 := hh.cell 2
  have al := hh.lt
  simp at a2
  obtain ⟨c0, -, c2⟩ := ring_cells hr hw 2 (.inr (.inl rfl))
  have lk := look_ring hw 2 (.inr (.inl rfl))
  obtain ⟨p, t, hl⟩ : ∃ p t, D.L 2 = p :: t := by
    cases h : D.L 2 with
    | nil => exact absurd (by rw [← hr.hot, h]; rfl) h0
    | cons p t => exact ⟨p, t, rfl⟩
  simp [hl, pt] at c0
  have hp : p ∈ D.L 2 := by rw [hl]; simp
  have hpb := hr.wf.sub 2 p hp
  have hn := raw_nodes hw
  have p2 := nodes_cell hn hpb hr.wf.nd 2
  have pf := nodes_frozen hn hpb hr.wf.nd 2
  have pl := nodes_lt hn hpb hr.wf.nd
  simp [Nd.cs] at p2
  have hhot : S.hot = pgOf D.f p :: t.map (pgOf D.f) := by rw [← hr.hot, hl]; rfl
  obtain ⟨o1, o2⟩ := out_head hr.wf hl
  have sz : ∀ k, (D.L k).length < 9000 := fun k => by
    have h1 := hb.tot
    have := congrArg List.length (hr.list k)
    simp only [List.length_map] at this
    rw [this]
    unfold listS
    repeat' split
    all_goals first | omega | simp
  cases hm : (D.f p).mark with
  | true =>
    rw [hm] at p2
    have H1 := raw_nodes' (nodes_store hn hpb hr.wf.nd 2 (.bool false) { D.f p with mark := false } rfl)
    have R1 := hr.marked p false
    have MV := move_calls { D with f := up D.f p { D.f p with mark := false } } F _ p 2 2 (.inr (.inl rfl)) (.inr (.inl rfl)) hp (sz 2) R1.wf H1
    have MV' : Hid (Calls Try.prog 86 #[.pointer (some ⟨D.a, 0, none⟩), .pointer (some ⟨p, 0, none⟩), .int .i64 2] (w.setCell ⟨p, 2, none⟩ (.bool false)) (Now D.a (turnHotS S) F w)) := by
      refine MV.mono ?_
      rintro e w' ⟨rfl, f', k1, k2, k3, k4⟩
      refine ⟨rfl, ?_, ((Sm.refl w).setCell _ _).trans k4⟩
      have R2 := R1.moved hp (.inr (.inl rfl)) k1 k2
      have := ck_shut R2 k3
      have hpt : p ∉ t := by have := hr.wf.ln 2; rw [hl] at this; exact (List.nodup_cons.1 this).1
      have hp1 : p ∉ D.L 1 := fun h => absurd ((hr.wf.kind 1 p h).1.symm.trans (hr.wf.kind 2 p hp).1) (by decide)
      have hp3 : p ∉ D.L 3 := fun h => absurd ((hr.wf.kind 3 p h).1.symm.trans (hr.wf.kind 2 p hp).1) (by decide)
      have e : turnHotS S = { S with cold := (inL (outL D.L p) p 2 1).map (pgOf (up D.f p { D.f p with mark := false })), hot := (inL (outL D.L p) p 2 2).map (pgOf (up D.f p { D.f p with mark := false })), test := (inL (outL D.L p) p 2 3).map (pgOf (up D.f p { D.f p with mark := false })) } := by
        have u : (pgOf D.f p).mark = true := hm
        have i1 : inL (outL D.L p) p 2 1 = D.L 1 := by simp [inL, o2 1 (by decide)]
        have i2 : inL (outL D.L p) p 2 2 = t ++ [p] := by simp [inL, o1]
        have i3 : inL (outL D.L p) p 2 3 = D.L 3 := by simp [inL, o2 3 (by decide)]
        rw [i1, i2, i3, map_up_other hp1, map_up_other hp3, List.map_append, map_up_other hpt, hr.cold, hr.test]
        simp only [turnHotS, hhot, u, if_true]
        simp [unmark, pgOf, up]
      rw [e]; exact this
    clear hh hn hw hr hp hpb hl hhot o1 o2 sz H1 R1 MV hb h0 hm
    go_enter Try.func113, Try.ntmps113
    go_wp2_with fail
    refine (MV'.out).mono ?_
    rintro e w1 ⟨rfl, k1, k2⟩
    have K1 := Lib.hid k1
    have K2 := Lib.hid k2
    clear k1 k2
    go_wp2_with fail
    go_end0
    exact ⟨rfl, K1.out, K2.out⟩
  | false =>
    rw [hm] at p2
    have MV := move_calls D F w p 1 2 (.inl rfl) (.inr (.inl rfl)) hp (sz 1) hr.wf hw
    have MV' : Hid (Calls Try.prog 86 #[.pointer (some ⟨D.a, 0, none⟩), .pointer (some ⟨p, 0, none⟩), .int .i64 1] w (Now D.a (turnHotS S) F w)) := by
      refine MV.mono ?_
      rintro e w' ⟨rfl, f', k1, k2, k3, k4⟩
      refine ⟨rfl, ?_, k4⟩
      have := ck_shut (hr.moved hp (.inl rfl) k1 k2) k3
      have e : turnHotS S = { S with cold := (inL (outL D.L p) p 1 1).map (pgOf D.f), hot := (inL (outL D.L p) p 1 2).map (pgOf D.f), test := (inL (outL D.L p) p 1 3).map (pgOf D.f) } := by
        have u : (pgOf D.f p).mark = false := hm
        have i1 : inL (outL D.L p) p 1 1 = D.L 1 ++ [p] := by simp [inL, o2 1 (by decide)]
        have i2 : inL (outL D.L p) p 1 2 = t := by simp [inL, o1]
        have i3 : inL (outL D.L p) p 1 3 = D.L 3 := by simp [inL, o2 3 (by decide)]
        rw [i1, i2, i3, List.map_append, hr.cold, hr.test]
        simp [turnHotS, hhot, u]
      rw [e]; exact this
    clear hh hn hw hr hp hpb hl hhot o1 o2 sz MV hb h0 hm
    go_enter Try.func113, Try.ntmps113
    go_wp2_with fail
    refine (MV'.out).mono ?_
    rintro e w1 ⟨rfl, k1, k2⟩
    have K1 := Lib.hid k1
    have K2 := Lib.hid k2
    clear k1 k2
    go_wp2_with fail
    go_end0
    exact ⟨rfl, K1.out, K2.out⟩
#print axioms turnHot_calls
end Go.Proofs.Ytmaoboepmbioiaa.Clock
