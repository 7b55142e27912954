/-
  Layer 19: the clock in memory against the clock as its callers see it; Kind, Count, Target, there, turnHot.
-/
import Derived.Test.YtmaoboepmbioiaaClockMove
namespace Go.Proofs.Ytmaoboepmbioiaa.Clock
open Go.RowKit Go.Sep
set_option maxRecDepth 100000
set_option linter.unusedVariables false
set_option linter.unusedSimpArgs false

def pgOf (f : Nat → Nd) (b : Nat) : Pg := ⟨(f b).id, (f b).mark⟩
structure Rel (D : Raw) (S : CS) : Prop where
  wf : Wf D.L D.f D.bs
  most : D.most = S.most
  target : D.target = S.target
  cold : (D.L 1).map (pgOf D.f) = S.cold
  hot : (D.L 2).map (pgOf D.f) = S.hot
  test : (D.L 3).map (pgOf D.f) = S.test
  pages : ∀ i b, (i, b) ∈ D.E ↔ ∃ k, b ∈ D.L k ∧ (D.f b).id = i
  ids : ∀ k b, b ∈ D.L k → okK (D.f b).id
structure Bnd (S : CS) : Prop where
  m1 : 1 ≤ S.most
  m2 : S.most ≤ 4096
  t1 : 1 ≤ S.target
  t2 : S.target ≤ S.most
  tot : S.cold.length + S.hot.length + S.test.length ≤ 8500
def ck (a : Nat) (S : CS) : Asr := ex fun D => pur (Rel D S ∧ D.a = a) * rawA D

theorem ck_open {w : World} {a : Nat} {S : CS} {F : Asr} (h : Holds w (ck a S * F)) : ∃ D, Rel D S ∧ D.a = a ∧ Holds w (rawA D * F) := by
  unfold ck at h
  rw [ex_star] at h
  obtain ⟨D, h⟩ := holds_ex.1 h
  rw [star_assoc] at h
  obtain ⟨⟨h1, h2⟩, h3⟩ := holds_pur.1 h
  exact ⟨D, h1, h2, h3⟩
theorem ck_shut {w : World} {D : Raw} {S : CS} {F : Asr} (hr : Rel D S) (h : Holds w (rawA D * F)) : Holds w (ck D.a S * F) := by
  unfold ck
  rw [ex_star]
  refine holds_ex.2 ⟨D, ?_⟩
  rw [star_assoc]
  exact holds_pur.2 ⟨⟨hr, rfl⟩, h⟩
def listS (S : CS) (k : Int) : List Pg := if k = 1 then S.cold else if k = 2 then S.hot else if k = 3 then S.test else []
theorem Rel.list {D : Raw} {S : CS} (h : Rel D S) (k : Int) : (D.L k).map (pgOf D.f) = listS S k := by
  unfold listS
  split
  · rename_i e; subst e; exact h.cold
  · split
    · rename_i e; subst e; exact h.hot
    · split
      · rename_i e; subst e; exact h.test
      · rename_i h1 h2 h3
        have : D.L k = [] := by
          cases hL : D.L k with
          | nil => rfl
          | cons b l => rcases (h.wf.kind k b (by rw [hL]; simp)).2 with e | e | e <;> contradiction
        rw [this]; rfl
theorem Rel.mem {D : Raw} {S : CS} (h : Rel D S) (k id : Int) : has (listS S k) id = true ↔ ∃ b, b ∈ D.L k ∧ (D.f b).id = id := by
  rw [← h.list k]
  simp [has, pgOf]
/-- where a page is -/
theorem Rel.kind {D : Raw} {S : CS} (h : Rel D S) (id : Int) (hn : (D.E.map Prod.fst).Nodup) : (getK D.E id = none ∧ kindS S id = 0 ∧ ∀ k, has (listS S k) id = false) ∨ ∃ b k, isK k ∧ getK D.E id = some b ∧ b ∈ D.L k ∧ (D.f b).id = id ∧ kindS S id = k ∧ has (listS S k) id = true ∧ ∀ j, j ≠ k → has (listS S j) id = false := by
  cases hg : getK D.E id with
  | none =>
    have hno : ∀ k, has (listS S k) id = false := by
      intro k
      cases hh : has (listS S k) id with
      | false => rfl
      | true =>
        obtain ⟨b, h1, h2⟩ := (h.mem k id).1 hh
        exact absurd rfl (getK_none' hg (id, b) ((h.pages id b).2 ⟨k, h1, h2⟩))
    refine .inl ⟨rfl, ?_, hno⟩
    have h1 := hno 1
    have h2 := hno 2
    have h3 := hno 3
    simp [listS] at h1 h2 h3
    simp [kindS, h1, h2, h3]
  | some b =>
    obtain ⟨k, h1, h2⟩ := (h.pages id b).1 (getK_mem hg)
    have hk := (h.wf.kind k b h1).2
    have hyes : has (listS S k) id = true := (h.mem k id).2 ⟨b, h1, h2⟩
    have hno : ∀ j, j ≠ k → has (listS S j) id = false := by
      intro j hj
      cases hh : has (listS S j) id with
      | false => rfl
      | true =>
        obtain ⟨b', h1', h2'⟩ := (h.mem j id).1 hh
        have := nodup_mem_eq hn ((h.pages id b').2 ⟨j, h1', h2'⟩) ((h.pages id b).2 ⟨k, h1, h2⟩)
        subst this
        exact absurd ((h.wf.kind j b' h1').1.symm.trans (h.wf.kind k b' h1).1) hj
    refine .inr ⟨b, k, hk, rfl, h1, h2, ?_, hyes, hno⟩
    rcases hk with rfl | rfl | rfl
    · have h1 : has S.cold id = true := by simpa [listS] using hyes
      simp [kindS, h1]
    · have h1 : has S.cold id = false := by simpa [listS] using hno 1 (by decide)
      have h2 : has S.hot id = true := by simpa [listS] using hyes
      simp [kindS, h1, h2]
    · have h1 : has S.cold id = false := by simpa [listS] using hno 1 (by decide)
      have h2 : has S.hot id = false := by simpa [listS] using hno 2 (by decide)
      have h3 : has S.test id = true := by simpa [listS] using hyes
      simp [kindS, h1, h2, h3]

theorem none_raw (D : Raw) (F : Asr) (w : World) (hw : Holds w (rawA D * F)) : Calls Try.prog 83 #[.pointer (some ⟨D.a, 0, none⟩)] w fun e w' => e = .returned (.bool false) ∧ w = w' := by
  have hh := raw_hd hw
  have c3 := hh.cell 3
  have al := hh.lt
  simp at c3
  have := fun w => run_eql_map_nil (P := Try.prog) w 157 3 153 (some D.P) Try.underlying157
  clear hh hw
  go_enter Try.func83, Try.ntmps83
  go_wp2
  go_ret
  exact ⟨rfl, rfl⟩

theorem kind_raw (D : Raw) (S : CS) (F : Asr) (w : World) (id : Int) (hid : okK id) (hr : Rel D S) (hw : Holds w (rawA D * F)) :
    Calls Try.prog 41 #[.pointer (some ⟨D.a, 0, none⟩), .int .i64 id] w fun e w' => e = .returned (.int .i64 (kindS S id)) ∧ w = w' := by
  have hh := raw_hd hw
  have c3 := hh.cell 3
  have al := hh.lt
  simp at c3
  have N0 := Lib.hid (none_raw D F w hw)
  have lk := mapA_look false intK Try.underlying157 (z := .pointer none) (fun w => by kernel_rfl) (raw_P hw) id hid
  simp only [iK] at lk
  rcases hr.kind id (mapA_nodup intK (raw_P hw)) with ⟨e1, e2, -⟩ | ⟨b, k, hk, e1, hb, hbi, e2, -, -⟩
  · simp [e1] at lk
    rw [e2]
    clear e1 e2 hh hw hr
    go_enter Try.func41, Try.ntmps41
    go_wp2_with (go_at_call 83; refine (N0.out).mono ?_; rintro e w' ⟨rfl, rfl⟩)
    go_ret
    exact ⟨rfl, rfl⟩
  · simp [e1, pa] at lk
    rw [e2]
    have hn := raw_nodes hw
    have p1 := nodes_cell hn (hr.wf.sub k b hb) hr.wf.nd 1
    have pl := nodes_lt hn (hr.wf.sub k b hb) hr.wf.nd
    simp [Nd.cs, (hr.wf.kind k b hb).1] at p1
    clear e1 e2 hh hw hr hb hk hn hbi
    go_enter Try.func41, Try.ntmps41
    go_wp2_with (go_at_call 83; refine (N0.out).mono ?_; rintro e w' ⟨rfl, rfl⟩)
    go_ret
    exact ⟨rfl, rfl⟩
#print axioms kind_raw
end Go.Proofs.Ytmaoboepmbioiaa.Clock
