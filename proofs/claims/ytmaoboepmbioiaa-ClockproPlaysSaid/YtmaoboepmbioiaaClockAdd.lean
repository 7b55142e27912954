/-
  Layer 19: Add.
-/
import Derived.Test.YtmaoboepmbioiaaClockOps
namespace Go.Proofs.Ytmaoboepmbioiaa.Clock
open Go.RowKit Go.Sep
set_option maxRecDepth 100000
set_option linter.unusedVariables false
set_option linter.unusedSimpArgs false

/-! ### an id that is nowhere stays nowhere -/
structure NoId (S : CS) (i : Int) : Prop where
  c : has S.cold i = false
  h : has S.hot i = false
  t : has S.test i = false
theorem has_cons (p : Pg) (l : List Pg) (i : Int) : has (p :: l) i = ((p.id == i) || has l i) := by simp [has]
theorem has_append (l k : List Pg) (i : Int) : has (l ++ k) i = (has l i || has k i) := by simp [has]
theorem NoId.turnHot {S : CS} {i : Int} (h : NoId S i) : NoId (turnHotS S) i := by
  obtain ⟨h1, h2, h3⟩ := h
  unfold turnHotS
  cases e : S.hot with
  | nil => exact ⟨h1, by rw [e] at h2; simp only; rw [e]; exact h2, h3⟩
  | cons p t =>
    rw [e, has_cons] at h2
    simp only [Bool.or_eq_false_iff] at h2
    simp only
    split
    · exact ⟨h1, by simp only [has_append, has_cons, unmark, h2]; rfl, h3⟩
    · exact ⟨by simp only [has_append, has_cons, h2, h1]; rfl, h2.2, h3⟩
theorem NoId.cool {least : Int} (h0 : 0 ≤ least) {i : Int} (n : Nat) : ∀ S : CS, coolM S ≤ n → NoId S i → NoId (coolS least S) i := by
  induction n with
  | zero =>
    intro S h hn
    rw [cool_stop]
    · exact hn
    · have : S.hot.length = 0 := by unfold coolM at h; omega
      rw [this]; simp; omega
  | succ n ih =>
    intro S h hn
    by_cases hc : max (S.most - S.target) least < (S.hot.length : Int)
    · have hne : S.hot ≠ [] := by rintro e; rw [e] at hc; simp at hc; omega
      have hm := turnHot_m hne
      rw [cool_step h0 hc]
      exact ih _ (by omega) hn.turnHot
    · rw [cool_stop hc]; exact hn
theorem NoId.chill {i : Int} (n : Nat) : ∀ S : CS, chillM S ≤ n → 0 < thereS S → NoId S i → NoId (chillS S) i := by
  have stop : ∀ S : CS, S.cold.length ≠ 0 → NoId S i → NoId (chillS S) i := fun S h hn => by rw [chill_stop h]; exact hn
  induction n with
  | zero =>
    intro S h h0 hn
    by_cases hc : S.cold.length = 0
    · exfalso; unfold chillM at h; rw [if_pos hc] at h; unfold thereS at h0; omega
    · exact stop S hc hn
  | succ n ih =>
    intro S h h0 hn
    by_cases hc : S.cold.length = 0
    · have hne : S.hot ≠ [] := by rintro e; unfold thereS at h0; rw [e] at h0; simp at h0; omega
      rw [chill_step hc hne]
      have hm := chill_m hne hc
      exact ih _ (by omega) (by rw [(turnHot_most S).2.2.2.1]; exact h0) hn.turnHot
    · exact stop S hc hn
theorem NoId.cold {S : CS} {i : Int} (h : NoId S i) : NoId (coldS S).S i := by
  obtain ⟨h1, h2, h3⟩ := h
  unfold coldS
  cases e : S.cold with
  | nil => exact ⟨by simp only; exact h1, h2, h3⟩
  | cons p t =>
    rw [e, has_cons] at h1
    simp only [Bool.or_eq_false_iff] at h1
    have hta : has (S.test ++ [p]) i = false := by simp only [has_append, has_cons, h1, h3]; rfl
    simp only
    split
    · exact NoId.cool (by omega) _ _ (Nat.le_refl _) ⟨h1.2, by simp only [has_append, has_cons, unmark, h1, h2]; rfl, h3⟩
    · split
      · refine ⟨h1.2, h2, ?_⟩
        cases ht : S.test ++ [p] with
        | nil => simp at ht
        | cons q l => rw [ht, has_cons] at hta; simp only [Bool.or_eq_false_iff] at hta; exact hta.2
      · exact ⟨h1.2, h2, hta⟩
theorem NoId.evict {i : Int} (n : Nat) : ∀ S : CS, allMarks S ≤ n → NoId S i → NoId (evictS S).S i := by
  have main : ∀ S : CS, (∀ T, allMarks T < allMarks S → NoId T i → NoId (evictS T).S i) → NoId S i → NoId (evictS S).S i := by
    intro S ih hn
    rw [evict_step]
    split
    · rename_i h0
      have hc : NoId (turnColdS S).S i := by rw [turnColdS_eq]; exact (NoId.chill _ S (Nat.le_refl _) h0 hn).cold
      split
      · exact hc
      · rename_i hok
        exact ih _ ((turnCold_keeps S h0).no (by simpa using hok)).2.2.1 hc
    · exact hn
  induction n with
  | zero => intro S h; exact main S fun T hT => by omega
  | succ n ih => intro S h; exact main S fun T hT => ih T (by omega)

def roomL (S : CS) (l : List Int) : Gone := roomF (thereS S) S l
theorem room_step {S : CS} {l : List Int} (h : S.most ≤ (thereS S : Int)) (h1 : 1 ≤ S.most) : roomL S l = roomL (evictS S).S (l ++ [(evictS S).id]) := by
  unfold roomL
  have ht := (evict_ok S).there
  obtain ⟨n, hn⟩ : ∃ n, thereS S = n + 1 := ⟨thereS S - 1, by omega⟩
  have : thereS (evictS S).S = n := by omega
  rw [this, hn]
  simp only [roomF]
  rw [hn] at h
  rw [if_pos (by rw [hn]; exact h)]
theorem room_stop {S : CS} {l : List Int} (h : ¬ S.most ≤ (thereS S : Int)) : roomL S l = ⟨S, l⟩ := by
  unfold roomL
  cases e : thereS S with
  | zero => rfl
  | succ n => simp only [roomF]; rw [if_neg h]
structure RoomKeeps (S : CS) (l : List Int) (r : Gone) : Prop where
  bnd : Bnd S → Bnd r.S
  no : ∀ i, NoId S i → NoId r.S i
  there : Bnd S → (thereS r.S : Int) < S.most
  most : r.S.most = S.most
  tl : (S.test.length : Int) ≤ S.most → (r.S.test.length : Int) ≤ S.most
theorem room_keeps (n : Nat) : ∀ (S : CS) (l : List Int), Bnd S → thereS S ≤ n → RoomKeeps S l (roomL S l) := by
  have stop : ∀ (S : CS) (l : List Int), ¬ S.most ≤ (thereS S : Int) → RoomKeeps S l (roomL S l) := fun S l h => by
    rw [room_stop h]; exact ⟨fun h => h, fun _ h => h, fun _ => by simp only; omega, rfl, fun h => h⟩
  induction n with
  | zero => intro S l hb h; exact stop S l (by have := hb.m1; omega)
  | succ n ih =>
    intro S l hb h
    by_cases hc : S.most ≤ (thereS S : Int)
    · rw [room_step hc hb.m1]
      have E := evict_ok S
      have I := ih (evictS S).S (l ++ [(evictS S).id]) (E.bnd hb) (by rw [E.there]; omega)
      exact ⟨fun hb => I.bnd (E.bnd hb), fun i h => I.no i (NoId.evict _ S (Nat.le_refl _) h), fun hb => by have := I.there (E.bnd hb); rw [E.most] at this; exact this, I.most.trans E.most, fun h => by have := I.tl (by rw [E.most]; exact E.tl h); rw [E.most] at this; exact this⟩
    · exact stop S l hc

/-! ### a fresh page -/
def nd0 (id : Int) : Nd := ⟨id, 0, false, none, none⟩
def freshD (D : Raw) (nb : Nat) (id : Int) : Raw := { D with f := up D.f nb (nd0 id), bs := nb :: D.bs }
theorem fresh_raw {D : Raw} {F : Asr} {w : World} (hwf : Wf D.L D.f D.bs) (hw : Holds w (rawA D * F)) (id : Int) :
    Holds (w.alloc (.cells (nd0 id).cs 162)) (rawA (freshD D w.heap.size id) * F) ∧ Wf D.L (up D.f w.heap.size (nd0 id)) (w.heap.size :: D.bs) ∧ ∀ j, w.heap.size ∉ D.L j := by
  have hnb : w.heap.size ∉ D.bs := fun h => Nat.lt_irrefl _ (nodes_lt (raw_nodes hw) h hwf.nd)
  have hnl : ∀ j, w.heap.size ∉ D.L j := fun j h => hnb (hwf.sub j _ h)
  refine ⟨?_, ?_, hnl⟩
  · have := hw.alloc (.cells (nd0 id).cs 162)
    refine Holds.eqv this ?_
    have e1 : nodesA (up D.f w.heap.size (nd0 id)) D.bs = nodesA D.f D.bs := big_congr fun b hb => by
      unfold ndA; rw [up_other _ _ (by rintro rfl; exact hnb hb)]
    have e2 : nodesA (up D.f w.heap.size (nd0 id)) (w.heap.size :: D.bs) = pts w.heap.size (.cells (nd0 id).cs 162) * nodesA D.f D.bs := by
      rw [← e1]; unfold nodesA; rw [big_cons]; unfold ndA; rw [up_same]
    unfold rawA freshD
    simp only
    rw [e2]
    ac_rfl
  · refine ⟨List.nodup_cons.2 ⟨hnb, hwf.nd⟩, fun k b hb => List.mem_cons_of_mem _ (hwf.sub k b hb), hwf.ln, ?_, ?_, hwf.sz⟩
    · exact (hwf.kind0 _ hnl (nd0 id)).kind
    · exact (hwf.kind0 _ hnl (nd0 id)).rg
theorem in_new {L : Int → List Nat} {p : Nat} {k : Int} (b : Nat) : (∃ i, b ∈ inL L p k i) ↔ (∃ i, b ∈ L i) ∨ b = p := by
  constructor
  · rintro ⟨i, hi⟩
    unfold inL at hi
    split at hi
    · simp only [List.mem_append, List.mem_singleton] at hi
      rcases hi with hi | rfl
      · exact .inl ⟨i, hi⟩
      · exact .inr rfl
    · exact .inl ⟨i, hi⟩
  · rintro (⟨i, hi⟩ | rfl)
    · refine ⟨i, ?_⟩
      unfold inL; split
      · simp [hi]
      · exact hi
    · exact ⟨k, by simp [inL]⟩
theorem Rel.added {D : Raw} {S : CS} (h : Rel D S) (hn : (D.E.map Prod.fst).Nodup) {nb : Nat} {k id : Int} (hnl : ∀ j, nb ∉ D.L j) (hno : NoId S id) (hid : okK id) {f' : Nat → Nd} (hwf : Wf (inL D.L nb k) f' (nb :: D.bs)) (hf : ∀ b, (f' b).id = (up D.f nb (nd0 id) b).id ∧ (f' b).mark = (up D.f nb (nd0 id) b).mark) :
    Rel { freshD D nb id with L := inL D.L nb k, f := f', E := putK D.E id nb } { S with cold := S.cold ++ (if k = 1 then [⟨id, false⟩] else []), hot := S.hot ++ (if k = 2 then [⟨id, false⟩] else []), test := S.test ++ (if k = 3 then [⟨id, false⟩] else []) } := by
  have e : pgOf f' = pgOf (up D.f nb (nd0 id)) := funext fun b => by simp [pgOf, hf b]
  have hl : ∀ j, (inL D.L nb k j).map (pgOf f') = listS S j ++ (if k = j then [⟨id, false⟩] else []) := by
    intro j
    rw [e, ← h.list j]
    unfold inL
    by_cases ej : j = k
    · subst ej
      rw [if_pos rfl, if_pos rfl, List.map_append, map_up_other (hnl j)]
      simp [pgOf, up, nd0]
    · rw [if_neg ej, if_neg (Ne.symm ej), map_up_other (hnl j), List.append_nil]
  refine ⟨hwf, h.most, h.target, hl 1, hl 2, hl 3, fun i b => ?_, fun i b hb => ?_⟩
  · simp only [hf]
    rw [mem_putK hn, h.pages i b]
    constructor
    · rintro (⟨rfl, rfl⟩ | ⟨hne, q, hq, rfl⟩)
      · obtain ⟨q, hq⟩ := (in_new (L := D.L) (k := k) b).2 (.inr rfl)
        exact ⟨q, hq, by simp [up, nd0]⟩
      · obtain ⟨q', hq'⟩ := (in_new (p := nb) (k := k) b).2 (.inl ⟨q, hq⟩)
        exact ⟨q', hq', by rw [up_other _ _ (by rintro rfl; exact hnl q hq)]⟩
    · rintro ⟨q, hq, rfl⟩
      rcases (in_new b).1 ⟨q, hq⟩ with ⟨q', hq'⟩ | rfl
      · have hb : b ≠ nb := by rintro rfl; exact hnl q' hq'
        rw [up_other _ _ hb]
        refine .inr ⟨fun ei => ?_, q', hq', rfl⟩
        have := (h.mem q' id).2 ⟨b, hq', ei⟩
        rcases (h.wf.kind q' b hq').2 with rfl | rfl | rfl
        · rw [show listS S 1 = S.cold from rfl, hno.c] at this; exact absurd this (by decide)
        · rw [show listS S 2 = S.hot from rfl, hno.h] at this; exact absurd this (by decide)
        · rw [show listS S 3 = S.test from rfl, hno.t] at this; exact absurd this (by decide)
      · exact .inl ⟨by simp [up, nd0], rfl⟩
  · simp only [hf]
    rcases (in_new b).1 ⟨i, hb⟩ with ⟨q', hq'⟩ | rfl
    · rw [up_other _ _ (by rintro rfl; exact hnl q' hq')]; exact h.ids q' b hq'
    · simpa [up, nd0] using hid
def PutAt (D : Raw) (p : Nat) (k : Int) (F : Asr) (w : World) (e : Ending) (w' : World) : Prop :=
  e = .returned (.tuple #[]) ∧ ∃ f', Wf (inL D.L p k) f' D.bs ∧ (∀ b, (f' b).id = (D.f b).id ∧ (f' b).mark = (D.f b).mark) ∧ Holds w' (rawA { D with L := inL D.L p k, f := f' } * F) ∧ Sm w w'
set_option maxHeartbeats 2000000 in
theorem move0_calls (D : Raw) (F : Asr) (w : World) (p : Nat) (k : Int) (hk : isK k) (hpb : p ∈ D.bs) (hp : ∀ j, p ∉ D.L j) (h0 : (D.f p).kind = 0) (hsz : (D.L k).length < 9000) (hwf : Wf D.L D.f D.bs) (hw : Holds w (rawA D * F)) :
    Calls Try.prog 86 #[.pointer (some ⟨D.a, 0, none⟩), .pointer (some ⟨p, 0, none⟩), .int .i64 k] w (PutAt D p k F w) := by
  have hh := raw_hd hw
  have a2 := hh.cell 2
  have al := hh.lt
  have hn := raw_nodes hw
  have p1 := nodes_cell hn hpb hwf.nd 1
  have pf := nodes_frozen hn hpb hwf.nd 1
  have pl := nodes_lt hn hpb hwf.nd
  simp [Nd.cs, h0] at p1
  simp at a2
  have H2 := raw_nodes' (nodes_store hn hpb hwf.nd 1 (.int .i64 k) { D.f p with kind := k } rfl)
  have lk2 := look_ring H2 k hk
  have PT := Lib.hid (put_raw { D with f := up D.f p { D.f p with kind := k } } F _ p k hk hpb hp (by simp [up_same]) hsz (hwf.kind0 p hp _) H2)
  clear hh hn H2 hwf hw hpb hp hk h0
  go_enter Try.func86, Try.ntmps86
  go_wp2_with fail
  refine (PT.out).mono ?_
  rintro e w2 ⟨rfl, f2, j1, j2, j3, j4⟩
  have W2 := Lib.hid j1
  have J2 := Lib.hid j2
  have H3 := Lib.hid j3
  have S2 : Hid (Sm w w2) := ((Sm.refl w).setCell _ _).trans j4
  clear j1 j2 j3 j4
  go_wp2_with fail
  go_end0
  refine ⟨rfl, f2, W2.out, fun b => ?_, H3.out, S2.out⟩
  have e1 : (up D.f p { D.f p with kind := k } b).id = (D.f b).id := by unfold up; split <;> simp_all
  have e2 : (up D.f p { D.f p with kind := k } b).mark = (D.f b).mark := by unfold up; split <;> simp_all
  exact ⟨(J2.out b).1.trans e1, (J2.out b).2.2.1.trans e2⟩
#print axioms move0_calls
end Go.Proofs.Ytmaoboepmbioiaa.Clock
