/-
  Layer 27: purge, do.
-/
import Derived.Test.YtefcinifaaablaaOrd5
namespace Go.Proofs.Ytefcinifaaablaa.Ord
open Go.RowKit Go.Sep
set_option maxRecDepth 100000
set_option linter.unusedVariables false
set_option linter.unusedSimpArgs false

set_option maxHeartbeats 8000000 in
theorem purge_calls (s : Nat) (x : Option Int) (l : Int) (ga : Option Addr) (gn gc : Nat) (F : Asr) (w : World) (hw : Holds w (stA s x l * F))
    (OC : ∀ (F' : Asr) (W1 : World), Below w.heap.size w W1 → Holds W1 (stA s x l * F') → Calls Try.prog 95 #[.pointer (some ⟨s, 0, none⟩), opV 3 ⟨#[47]⟩ 0 ga gn gc, .string ⟨#[47]⟩] W1 (OutC s l F' W1)) :
    Calls Try.prog 78 #[.pointer (some ⟨s, 0, none⟩), opV 3 ⟨#[47]⟩ 0 ga gn gc] w (StC s none l F w) := by
  obtain ⟨W1, hW1⟩ : ∃ W9, w.alloc (.cells #[.int .i64 3, .int .i64 1, .string ⟨#[47]⟩, .string ⟨#[]⟩, .string ⟨#[]⟩, .int .i64 0, .slice ga gn gc] 63) = W9 := ⟨_, rfl⟩
  have H1 : Holds W1 (stA s x l * (pts w.heap.size (.cells #[.int .i64 3, .int .i64 1, .string ⟨#[47]⟩, .string ⟨#[]⟩, .string ⟨#[]⟩, .int .i64 0, .slice ga gn gc] 63 (0, 0)) * F)) := by rw [← hW1]; exact (hw.alloc _).eqv (by ac_rfl)
  have hb : Below w.heap.size w W1 := by rw [← hW1]; exact (Below.refl _ w).alloc (Nat.le_refl _) _
  have C1 := Lib.hid (OC _ W1 hb H1)
  have S1 := Lib.hid (Sm.of_below hb)
  unfold opV at C1 ⊢
  clear OC hw H1 hb
  subst hW1
  go_enter Try.func78, Try.ntmps78
  go_wp2_with fail
  refine (C1.out).mono ?_
  rintro e w3 ⟨rfl, h3, s3⟩
  have S3 := Lib.hid (S1.out.trans s3)
  obtain ⟨bx, hbx⟩ : ∃ z, w.heap.size = z := ⟨_, rfl⟩
  rw [hbx] at h3 ⊢
  have c3 := (h3.eqv (star_left_comm _ _ _))
  have d1 := c3.cell 1
  simp at d1
  obtain ⟨ma, mh, q0, q1, q2, -, ⟨c, hmap⟩⟩ := stF_of h3
  have AN := Lib.hid (any_none s ma mh c l (.func (.func 97) #[] #[.pointer (some ⟨bx, 0, none⟩)]) w3 q1 hmap)
  have H3 := Lib.hid h3
  clear C1 S1 s3 h3 c3 hbx hmap
  go_wp2_with fail
  refine (AN.out).mono ?_
  rintro e w5 ⟨rfl, b5⟩
  have H5 : Hid (Holds w5 (stA s none l * F)) := ((H3.out.grow b5).eqv (star_left_comm _ _ _)).right
  have S5 : Hid (Sm w w5) := S3.out.trans (Sm.of_below b5)
  clear b5 AN H3 S3
  go_wp2_with fail
  go_ret
  exact ⟨rfl, H5.out, S5.out⟩
#print axioms purge_calls
set_option maxHeartbeats 4000000 in
theorem doI_calls (s : Nat) (x x' : Option Int) (l l' id : Int) (key : ByteArray) (ga : Option Addr) (gn gc : Nat) (F : Asr) (w : World) (hw : Holds w (stA s x l * F))
    (CC : ∀ (F' : Asr) (W1 : World), Below w.heap.size w W1 → Holds W1 (stA s x l * F') → Calls Try.prog 77 #[.pointer (some ⟨s, 0, none⟩), opV 1 key id ga gn gc] W1 (StC s x' l' F' W1)) :
    Calls Try.prog 58 #[.pointer (some ⟨s, 0, none⟩), opV 1 key id ga gn gc] w (StC s x' l' F w) := by
  obtain ⟨W1, hW1⟩ : ∃ W9, w.alloc (.cells #[.int .i64 1, .int .i64 1, .string key, .string ⟨#[]⟩, .string ⟨#[]⟩, .int .i64 id, .slice ga gn gc] 63) = W9 := ⟨_, rfl⟩
  have H1 : Holds W1 (stA s x l * (pts w.heap.size (.cells #[.int .i64 1, .int .i64 1, .string key, .string ⟨#[]⟩, .string ⟨#[]⟩, .int .i64 id, .slice ga gn gc] 63 (0, 0)) * F)) := by rw [← hW1]; exact (hw.alloc _).eqv (by ac_rfl)
  have hb : Below w.heap.size w W1 := by rw [← hW1]; exact (Below.refl _ w).alloc (Nat.le_refl _) _
  have C1 := Lib.hid (CC _ W1 hb H1)
  have S1 := Lib.hid (Sm.of_below hb)
  unfold opV at C1 ⊢
  clear CC hw H1 hb
  subst hW1
  go_enter Try.func58, Try.ntmps58
  go_wp2_with fail
  refine (C1.out).mono ?_
  rintro e w3 ⟨rfl, h3, s3⟩
  have H3 : Hid (Holds w3 (stA s x' l' * F)) := (h3.eqv (star_left_comm _ _ _)).right
  have S3 := Lib.hid (S1.out.trans s3)
  clear C1 S1 h3 s3
  go_wp2_with fail
  go_ret
  exact ⟨rfl, H3.out, S3.out⟩
#print axioms doI_calls
set_option maxHeartbeats 4000000 in
theorem doP_calls (s : Nat) (x x' : Option Int) (l l' id : Int) (key : ByteArray) (ga : Option Addr) (gn gc : Nat) (F : Asr) (w : World) (hw : Holds w (stA s x l * F))
    (CC : ∀ (F' : Asr) (W1 : World), Below w.heap.size w W1 → Holds W1 (stA s x l * F') → Calls Try.prog 78 #[.pointer (some ⟨s, 0, none⟩), opV 3 key id ga gn gc] W1 (StC s x' l' F' W1)) :
    Calls Try.prog 58 #[.pointer (some ⟨s, 0, none⟩), opV 3 key id ga gn gc] w (StC s x' l' F w) := by
  obtain ⟨W1, hW1⟩ : ∃ W9, w.alloc (.cells #[.int .i64 3, .int .i64 1, .string key, .string ⟨#[]⟩, .string ⟨#[]⟩, .int .i64 id, .slice ga gn gc] 63) = W9 := ⟨_, rfl⟩
  have H1 : Holds W1 (stA s x l * (pts w.heap.size (.cells #[.int .i64 3, .int .i64 1, .string key, .string ⟨#[]⟩, .string ⟨#[]⟩, .int .i64 id, .slice ga gn gc] 63 (0, 0)) * F)) := by rw [← hW1]; exact (hw.alloc _).eqv (by ac_rfl)
  have hb : Below w.heap.size w W1 := by rw [← hW1]; exact (Below.refl _ w).alloc (Nat.le_refl _) _
  have C1 := Lib.hid (CC _ W1 hb H1)
  have S1 := Lib.hid (Sm.of_below hb)
  unfold opV at C1 ⊢
  clear CC hw H1 hb
  subst hW1
  go_enter Try.func58, Try.ntmps58
  go_wp2_with fail
  refine (C1.out).mono ?_
  rintro e w3 ⟨rfl, h3, s3⟩
  have H3 : Hid (Holds w3 (stA s x' l' * F)) := (h3.eqv (star_left_comm _ _ _)).right
  have S3 := Lib.hid (S1.out.trans s3)
  clear C1 S1 h3 s3
  go_wp2_with fail
  go_ret
  exact ⟨rfl, H3.out, S3.out⟩
#print axioms doP_calls
set_option maxHeartbeats 4000000 in
theorem doL_calls (s : Nat) (r id : Int) (key : ByteArray) (w : World)
    (CC : ∀ (W1 : World), Below w.heap.size w W1 → Calls Try.prog 76 #[.pointer (some ⟨s, 0, none⟩), opV 0 key id none 0 0] W1 fun e w' => e = .returned (.int .i64 r) ∧ Below W1.heap.size W1 w') :
    Calls Try.prog 58 #[.pointer (some ⟨s, 0, none⟩), opV 0 key id none 0 0] w fun e w' => e = .returned (.int .i64 r) ∧ Below w.heap.size w w' := by
  obtain ⟨W1, hW1⟩ : ∃ W9, w.alloc (.cells #[.int .i64 0, .int .i64 1, .string key, .string ⟨#[]⟩, .string ⟨#[]⟩, .int .i64 id, .slice none 0 0] 63) = W9 := ⟨_, rfl⟩
  have hb : Below w.heap.size w W1 := by rw [← hW1]; exact (Below.refl _ w).alloc (Nat.le_refl _) _
  have C1 := Lib.hid (CC W1 hb)
  have B1 := Lib.hid hb
  unfold opV at C1 ⊢
  clear CC hb
  subst hW1
  go_enter Try.func58, Try.ntmps58
  go_wp2_with fail
  refine (C1.out).mono ?_
  rintro e w3 ⟨rfl, b3⟩
  have B3 : Hid (Below w.heap.size w w3) := B1.out.trans (b3.mono B1.out.size)
  clear C1 B1 b3
  go_wp2_with fail
  go_ret
  exact ⟨rfl, B3.out⟩
#print axioms doL_calls

structure OpD where
  kind : Int
  key : ByteArray
  id : Int
  ga : Option Addr
  gn : Nat
  gc : Nat
def OpD.val (o : OpD) : Value := opV o.kind o.key o.id o.ga o.gn o.gc
def OpD.cs (o : OpD) : List Value := [.int .i64 o.kind, .int .i64 1, .string o.key, .string ⟨#[]⟩, .string ⟨#[]⟩, .int .i64 o.id, .slice o.ga o.gn o.gc]
abbrev St := Option Int × Int
def stepO (o : OpD) (st : St) : St × Int :=
  if o.kind = 1 then ((some o.id, o.id), 0) else if o.kind = 3 then ((none, st.2), 0) else if o.id = 0 then (st, if st.1.isSome = true then 13 else 0) else (st, if st.1 = some o.id then 0 else 12)
/-- the versions that an operation lets go are the ones that are there -/
def GoneO (w0 : World) (o : OpD) (x : Option Int) : Prop := (x = none ∧ o.ga = none ∧ o.gn = 0 ∧ o.gc = 0 ∧ o.kind = 1) ∨ ∃ g z, x = some z ∧ okZ z ∧ o.ga = some ⟨g, 0, none⟩ ∧ o.gn = 1 ∧ w0.cell? ⟨g, 0, none⟩ = some (.int .i64 z)
inductive OkO (w0 : World) (o : OpD) (st : St) : Prop
  | inst (h1 : o.kind = 1) (h2 : o.key = ⟨#[47, 107]⟩) (h3 : 0 < o.id) (h4 : st.2 < o.id) (h5 : okZ o.id) (h6 : GoneO w0 o st.1)
  | purge (h1 : o.kind = 3) (h2 : o.key = ⟨#[47]⟩) (h3 : o.id = 0) (h6 : GoneO w0 o st.1)
  | look (h1 : o.kind = 0) (h2 : o.key = ⟨#[47, 107]⟩) (h3 : o.ga = none ∧ o.gn = 0 ∧ o.gc = 0) (h4 : o.id = 0 ∨ 0 < o.id ∧ ∃ z, st.1 = some z)
def DoC (s : Nat) (o : OpD) (st : St) (F : Asr) (w : World) (e : Ending) (w' : World) : Prop := e = .returned (.int .i64 (stepO o st).2) ∧ Holds w' (stA s (stepO o st).1.1 (stepO o st).1.2 * F) ∧ Sm w w'
theorem out_any (s : Nat) (o : OpD) (x : Option Int) (l : Int) (w0 : World) (p : ByteArray) (hp : p = ⟨#[]⟩ ∨ p = ⟨#[47]⟩) (h : GoneO w0 o x) (w : World) (hcells : ∀ a v, w0.cell? a = some v → w.cell? a = some v) :
    ∀ (F' : Asr) (W1 : World), Below w.heap.size w W1 → Holds W1 (stA s x l * F') → Calls Try.prog 95 #[.pointer (some ⟨s, 0, none⟩), opV o.kind o.key o.id o.ga o.gn o.gc, .string p] W1 (OutC s l F' W1) := by
  intro F' W1 hb hH
  rcases h with ⟨rfl, h2, h3, h4, -⟩ | ⟨g, z, rfl, hz, h2, h3, h4⟩
  · rw [h2, h3, h4]
    refine (out0_calls s o.kind o.key p o.id W1).mono ?_
    rintro e w2 ⟨rfl, b2⟩
    exact ⟨rfl, hH.grow b2, Sm.of_below b2⟩
  · rw [h2, h3]
    have hc := hcells _ _ h4
    exact out1_calls s g o.kind o.key p o.id z l o.gc hp hz F' W1 hH ((hb.cell (p := ⟨g, 0, none⟩) (World.block_lt_of_cell? _ _ hc)).trans hc)
theorem do_calls (s : Nat) (o : OpD) (st : St) (w0 : World) (h : OkO w0 o st) (w : World) (hw : Holds w (stA s st.1 st.2 * all w0)) : Calls Try.prog 58 #[.pointer (some ⟨s, 0, none⟩), o.val] w (DoC s o st (all w0) w) := by
  have hcells : ∀ a v, w0.cell? a = some v → w.cell? a = some v := fun a v hv => all_cell hw hv
  obtain ⟨x, l⟩ := st
  obtain ⟨kind, key, id, ga, gn, gc⟩ := o
  cases h with
  | inst h1 h2 h3 h4 h5 h6 =>
    have OA := fun w1 hc => out_any s _ x l w0 ⟨#[]⟩ (.inl rfl) h6 w1 hc
    simp only at h1 h2 h3 h4 h5 h6 OA
    subst h1 h2
    have hs : stepO ⟨1, ⟨#[47, 107]⟩, id, ga, gn, gc⟩ (x, l) = ((some id, id), 0) := by simp [stepO]
    unfold DoC OpD.val
    rw [hs]
    exact doI_calls s x (some id) l id id _ ga gn gc (all w0) w hw fun F' W1 hb hH =>
      install_calls s x l id h3 h4 h5 ga gn gc F' W1 hH (OA W1 fun a v hv => (hb.cell (World.block_lt_of_cell? _ _ (hcells a v hv))).trans (hcells a v hv))
  | purge h1 h2 h3 h6 =>
    have OA := fun w1 hc => out_any s _ x l w0 ⟨#[47]⟩ (.inr rfl) h6 w1 hc
    simp only at h1 h2 h3 h6 OA
    subst h1 h2 h3
    have hs : stepO ⟨3, ⟨#[47]⟩, 0, ga, gn, gc⟩ (x, l) = ((none, l), 0) := by simp [stepO]
    unfold DoC OpD.val
    rw [hs]
    exact doP_calls s x none l l 0 _ ga gn gc (all w0) w hw fun F' W1 hb hH =>
      purge_calls s x l ga gn gc F' W1 hH (OA W1 fun a v hv => (hb.cell (World.block_lt_of_cell? _ _ (hcells a v hv))).trans (hcells a v hv))
  | look h1 h2 h3 h4 =>
    simp only at h1 h2 h3 h4
    obtain ⟨h3, h5, h6⟩ := h3
    subst h1 h2 h3 h5 h6
    unfold DoC OpD.val
    rcases h4 with rfl | ⟨h4, z, rfl⟩
    · have hs : stepO ⟨0, ⟨#[47, 107]⟩, 0, none, 0, 0⟩ (x, l) = ((x, l), if x.isSome = true then 13 else 0) := by simp [stepO]
      rw [hs]
      refine (doL_calls s (if x.isSome = true then 13 else 0) 0 _ w fun W1 hb => ?_).mono ?_
      · obtain ⟨ma, mh, hf⟩ := stF_of (hw.grow hb)
        exact lookup_zero s ma mh x l W1 hf
      · rintro e w2 ⟨rfl, b2⟩
        exact ⟨rfl, hw.grow b2, Sm.of_below b2⟩
    · have hs : stepO ⟨0, ⟨#[47, 107]⟩, id, none, 0, 0⟩ (some z, l) = ((some z, l), if id = z then 0 else 12) := by
        have : id ≠ 0 := by omega
        simp [stepO, this, eq_comm]
      rw [hs]
      refine (doL_calls s (if id = z then 0 else 12) id _ w fun W1 hb => ?_).mono ?_
      · obtain ⟨ma, mh, hf⟩ := stF_of (hw.grow hb)
        exact lookup_pos s ma mh z id l h4 W1 hf
      · rintro e w2 ⟨rfl, b2⟩
        exact ⟨rfl, hw.grow b2, Sm.of_below b2⟩
#print axioms do_calls
end Go.Proofs.Ytefcinifaaablaa.Ord
