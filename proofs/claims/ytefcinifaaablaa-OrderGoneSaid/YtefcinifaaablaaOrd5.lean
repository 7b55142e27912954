/-
  Layer 27: install, purge.
-/
import Derived.Test.YtefcinifaaablaaOrd4
import Derived.BigRegion
namespace Go.Proofs.Ytefcinifaaablaa.Ord
open Go.RowKit Go.Sep
set_option maxRecDepth 100000
set_option linter.unusedVariables false
set_option linter.unusedSimpArgs false

def StC (s : Nat) (x : Option Int) (l : Int) (F : Asr) (w : World) (e : Ending) (w' : World) : Prop := e = .returned (.int .i64 0) ∧ Holds w' (stA s x l * F) ∧ Sm w w'
theorem facts8 {s bx ow ma mh : Nat} {l q : Int} {ga : Option Addr} {gn gc : Nat} {X : Asr} {w' : World} (h : Holds w' (pts s (.cells #[.map (some ma), .map (some mh), .int .i64 l] 127 (0, 0)) * (pts bx (.cells #[.int .i64 1, .int .i64 1, .string ⟨#[47, 107]⟩, .string ⟨#[]⟩, .string ⟨#[]⟩, .int .i64 q, .slice ga gn gc] 63 (0, 0)) * (pts ow (.cells #[.int .i64 1, .string ⟨#[47, 107]⟩, .string ⟨#[]⟩] 160 (0, 0)) * X)))) : w'.cell? ⟨s, 0, none⟩ = some (.map (some ma)) ∧ w'.cell? ⟨s, 1, none⟩ = some (.map (some mh)) ∧ w'.cell? ⟨bx, 1, none⟩ = some (.int .i64 1) ∧ w'.cell? ⟨bx, 4, none⟩ = some (.string ⟨#[]⟩) ∧ w'.cell? ⟨bx, 5, none⟩ = some (.int .i64 q) ∧ w'.cell? ⟨ow, 0, none⟩ = some (.int .i64 1) ∧ w'.cell? ⟨ow, 1, none⟩ = some (.string ⟨#[47, 107]⟩) ∧ w'.cell? ⟨ow, 2, none⟩ = some (.string ⟨#[]⟩) := by
  have t0 := h.cell 0
  have t1 := h.cell 1
  have hb := h.eqv (star_left_comm _ _ _)
  have x1 := hb.cell 1
  have x4 := hb.cell 4
  have x5 := hb.cell 5
  have ho := h.eqv (by ac_rfl : _ = pts ow (.cells #[.int .i64 1, .string ⟨#[47, 107]⟩, .string ⟨#[]⟩] 160 (0, 0)) * (pts s (.cells #[.map (some ma), .map (some mh), .int .i64 l] 127 (0, 0)) * (pts bx (.cells #[.int .i64 1, .int .i64 1, .string ⟨#[47, 107]⟩, .string ⟨#[]⟩, .string ⟨#[]⟩, .int .i64 q, .slice ga gn gc] 63 (0, 0)) * X)))
  have o0 := ho.cell 0
  have o1 := ho.cell 1
  have o2 := ho.cell 2
  simp at t0 t1 x1 x4 x5 o0 o1 o2
  exact ⟨t0, t1, x1, x4, x5, o0, o1, o2⟩
set_option maxHeartbeats 8000000 in
theorem install_calls (s : Nat) (x : Option Int) (l q : Int) (hq : 0 < q) (hql : l < q) (hok : okZ q) (ga : Option Addr) (gn gc : Nat) (F : Asr) (w : World) (hw : Holds w (stA s x l * F))
    (OC : ∀ (F' : Asr) (W1 : World), Below w.heap.size w W1 → Holds W1 (stA s x l * F') → Calls Try.prog 95 #[.pointer (some ⟨s, 0, none⟩), opV 1 ⟨#[47, 107]⟩ q ga gn gc, .string ⟨#[]⟩] W1 (OutC s l F' W1)) :
    Calls Try.prog 77 #[.pointer (some ⟨s, 0, none⟩), opV 1 ⟨#[47, 107]⟩ q ga gn gc] w (StC s (some q) q F w) := by
  obtain ⟨W1, hW1⟩ : ∃ W9, w.alloc (.cells #[.int .i64 1, .int .i64 1, .string ⟨#[47, 107]⟩, .string ⟨#[]⟩, .string ⟨#[]⟩, .int .i64 q, .slice ga gn gc] 63) = W9 := ⟨_, rfl⟩
  have H1 : Holds W1 (stA s x l * (pts w.heap.size (.cells #[.int .i64 1, .int .i64 1, .string ⟨#[47, 107]⟩, .string ⟨#[]⟩, .string ⟨#[]⟩, .int .i64 q, .slice ga gn gc] 63 (0, 0)) * F)) := by rw [← hW1]; exact (hw.alloc _).eqv (by ac_rfl)
  have hb : Below w.heap.size w W1 := by rw [← hW1]; exact (Below.refl _ w).alloc (Nat.le_refl _) _
  have C1 := Lib.hid (OC _ W1 hb H1)
  have S1 := Lib.hid (Sm.of_below hb)
  have HOK := Lib.hid hok
  have e0 : decide (q < 0) = false := decide_eq_false (by omega)
  have e1 : (q == 0) = false := beq_eq_false_iff_ne.2 (by omega)
  have e2 : decide (q ≤ l) = false := decide_eq_false (by omega)
  unfold opV at C1 ⊢
  clear OC hw H1 hb hq hql hok
  subst hW1
  go_enter Try.func77, Try.ntmps77
  go_wp2_with fail
  refine (C1.out).mono ?_
  rintro e w3 ⟨rfl, h3, s3⟩
  have S3 := Lib.hid (S1.out.trans s3)
  have h4 := h3.alloc (.cells #[.int .i64 1, .string ⟨#[47, 107]⟩, .string ⟨#[]⟩] 160)
  obtain ⟨bx, hbx⟩ : ∃ z, w.heap.size = z := ⟨_, rfl⟩
  rw [hbx] at h4 h3 ⊢
  have c3 := (h3.eqv (star_left_comm _ _ _))
  have d1 := c3.cell 1
  have d2 := c3.cell 2
  have d3 := c3.cell 3
  have d4 := c3.cell 4
  have d5 := c3.cell 5
  simp at d1 d2 d3 d4 d5
  clear C1 S1 s3 h3 c3
  go_wp2_with fail
  obtain ⟨W4, hW4⟩ : ∃ W9, w3.alloc (.cells #[.int .i64 1, .string ⟨#[47, 107]⟩, .string ⟨#[]⟩] 160) = W9 := ⟨_, rfl⟩
  obtain ⟨ow, how⟩ : ∃ z, w3.heap.size = z := ⟨_, rfl⟩
  rw [hW4, how] at h4
  obtain ⟨ma, mh, h5⟩ := st_open (h4.eqv (by ac_rfl : _ = stA s none l * (pts ow (.cells #[.int .i64 1, .string ⟨#[47, 107]⟩, .string ⟨#[]⟩] 160 (0, 0)) * (pts bx (.cells #[.int .i64 1, .int .i64 1, .string ⟨#[47, 107]⟩, .string ⟨#[]⟩, .string ⟨#[]⟩, .int .i64 q, .slice ga gn gc] 63 (0, 0)) * F))))
  simp only [Option.toList, List.map] at h5
  have S4 : Hid (Sm w W4) := by rw [← hW4]; exact S3.out.alloc _
  obtain ⟨c1, a1⟩ := mapA_zero (h5.eqv (by ac_rfl : _ = mapA wE vE okZ mh [] * (pts s (.cells #[.map (some ma), .map (some mh), .int .i64 l] 127 (0, 0)) * (mapA pE iE okU ma [] * (pts ow (.cells #[.int .i64 1, .string ⟨#[47, 107]⟩, .string ⟨#[]⟩] 160 (0, 0)) * (pts bx (.cells #[.int .i64 1, .int .i64 1, .string ⟨#[47, 107]⟩, .string ⟨#[]⟩, .string ⟨#[]⟩, .int .i64 q, .slice ga gn gc] 63 (0, 0)) * F))))))
  have s1 := h5.cell 1
  have s2 := h5.cell 2
  have bb := (h5.eqv (by ac_rfl : _ = pts bx (.cells #[.int .i64 1, .int .i64 1, .string ⟨#[47, 107]⟩, .string ⟨#[]⟩, .string ⟨#[]⟩, .int .i64 q, .slice ga gn gc] 63 (0, 0)) * (pts s (.cells #[.map (some ma), .map (some mh), .int .i64 l] 127 (0, 0)) * (mapA pE iE okU ma [] * (mapA wE vE okZ mh [] * (pts ow (.cells #[.int .i64 1, .string ⟨#[47, 107]⟩, .string ⟨#[]⟩] 160 (0, 0)) * F))))))
  have b5 := bb.cell 5
  have b1 := bb.cell 1
  simp at s1 s2 b5 b1
  have K2 : ∀ n, (W4.drewN n).cell? ⟨s, 2, none⟩ = some (.int .i64 l) := fun n => s2
  have K5 : ∀ n, (W4.drewN n).cell? ⟨bx, 5, none⟩ = some (.int .i64 q) := fun n => b5
  have K1 : ∀ n, (W4.drewN n).cell? ⟨bx, 1, none⟩ = some (.int .i64 1) := fun n => b1
  have AN := Lib.hid (fun n => any_none s ma mh c1 l (.func (.func 96) #[] #[.pointer (some ⟨ow, 0, none⟩), .pointer (some ⟨bx, 0, none⟩)]) (W4.drewN n) s1 a1.at)
  have H5 := Lib.hid h5
  clear h4 h5 a1 S3 hbx bb
  rw [hW4, how]
  clear hW4 how
  go_quiet (fail)
  go_wp2_with fail
  refine (AN.out _).mono ?_
  rintro e w5 ⟨rfl, b6⟩
  have B6 := Lib.hid b6
  clear b6 AN K1 K2 K5 s1 s2 b5 b1 d1 d2 d3 d4 d5
  have h6 := (H5.out.drewN nq).grow B6.out
  have S6 : Hid (Sm w w5) := (S4.out.drewN nq).trans (Sm.of_below B6.out)
  have HB : Hid (Holds w5 (pts bx (.cells #[.int .i64 1, .int .i64 1, .string ⟨#[47, 107]⟩, .string ⟨#[]⟩, .string ⟨#[]⟩, .int .i64 q, .slice ga gn gc] 63 (0, 0)) * (pts s (.cells #[.map (some ma), .map (some mh), .int .i64 l] 127 (0, 0)) * (mapA pE iE okU ma [] * (mapA wE vE okZ mh [] * (pts ow (.cells #[.int .i64 1, .string ⟨#[47, 107]⟩, .string ⟨#[]⟩] 160 (0, 0)) * F)))))) := h6.eqv (by ac_rfl)
  have HO : Hid (Holds w5 (pts ow (.cells #[.int .i64 1, .string ⟨#[47, 107]⟩, .string ⟨#[]⟩] 160 (0, 0)) * (pts bx (.cells #[.int .i64 1, .int .i64 1, .string ⟨#[47, 107]⟩, .string ⟨#[]⟩, .string ⟨#[]⟩, .int .i64 q, .slice ga gn gc] 63 (0, 0)) * (pts s (.cells #[.map (some ma), .map (some mh), .int .i64 l] 127 (0, 0)) * (mapA pE iE okU ma [] * (mapA wE vE okZ mh [] * F)))))) := h6.eqv (by ac_rfl)
  clear h6 B6 S4 H5
  have t0 := (HB.out.eqv (star_left_comm _ _ _)).cell 0
  have t1 := (HB.out.eqv (star_left_comm _ _ _)).cell 1
  have x1 := HB.out.cell 1
  have x4 := HB.out.cell 4
  have x5 := HB.out.cell 5
  have o0 := HO.out.cell 0
  have o1 := HO.out.cell 1
  have o2 := HO.out.cell 2
  simp at t0 t1 x1 x4 x5 o0 o1 o2
  obtain ⟨k1, W6, r1, g1, z1⟩ := run_mapEntry (w := w5.drew) ktP Try.underlying124 zI ((HB.out.drewN 1).eqv (by ac_rfl : _ = mapA pE iE okU ma [] * (pts bx (.cells #[.int .i64 1, .int .i64 1, .string ⟨#[47, 107]⟩, .string ⟨#[]⟩, .string ⟨#[]⟩, .int .i64 q, .slice ga gn gc] 63 (0, 0)) * (pts s (.cells #[.map (some ma), .map (some mh), .int .i64 l] 127 (0, 0)) * (mapA wE vE okZ mh [] * (pts ow (.cells #[.int .i64 1, .string ⟨#[47, 107]⟩, .string ⟨#[]⟩] 160 (0, 0)) * F)))))) () trivial
  obtain ⟨W7, r2, g2, z2⟩ := run_entryStore (P := Try.prog) (t := 124) (ke := pE) (ve := iE) (ok := okU) (k := ()) g1 trivial q
  obtain ⟨k2, W8, r3, g3, z3⟩ := run_mapEntry (w := W7) ktW Try.underlying125 zV (g2.eqv (by ac_rfl : _ = mapA wE vE okZ mh [] * (mapA pE iE okU ma [((), q)] * (pts bx (.cells #[.int .i64 1, .int .i64 1, .string ⟨#[47, 107]⟩, .string ⟨#[]⟩, .string ⟨#[]⟩, .int .i64 q, .slice ga gn gc] 63 (0, 0)) * (pts s (.cells #[.map (some ma), .map (some mh), .int .i64 l] 127 (0, 0)) * (pts ow (.cells #[.int .i64 1, .string ⟨#[47, 107]⟩, .string ⟨#[]⟩] 160 (0, 0)) * F)))))) q HOK.out
  obtain ⟨W9, r4, g4, z4⟩ := run_entryStore (P := Try.prog) (t := 125) (ke := wE) (ve := vE) (ok := okZ) (k := q) g3 HOK.out ()
  simp only [pE, iE, wE, vE] at r1 r2 r3 r4
  have y6 := facts8 (s := s) (bx := bx) (ow := ow) (ma := ma) (mh := mh) (l := l) (q := q) (ga := ga) (gn := gn) (gc := gc) (X := pts ma (.map #[⟨pE (), .int .i64 0, k1⟩] (k1 + 1)) * (mapA wE vE okZ mh [] * F)) (g1.eqv (by ac_rfl))
  have y7 := facts8 (s := s) (bx := bx) (ow := ow) (ma := ma) (mh := mh) (l := l) (q := q) (ga := ga) (gn := gn) (gc := gc) (X := mapA pE iE okU ma [((), q)] * (mapA wE vE okZ mh [] * F)) (g2.eqv (by ac_rfl))
  have y8 := facts8 (s := s) (bx := bx) (ow := ow) (ma := ma) (mh := mh) (l := l) (q := q) (ga := ga) (gn := gn) (gc := gc) (X := pts mh (.map #[⟨wE q, .agg #[.int .i64 0, .string ⟨#[]⟩, .string ⟨#[]⟩, .string ⟨#[]⟩], k2⟩] (k2 + 1)) * (mapA pE iE okU ma [((), q)] * F)) (g3.eqv (by ac_rfl))
  have y9 := facts8 (s := s) (bx := bx) (ow := ow) (ma := ma) (mh := mh) (l := l) (q := q) (ga := ga) (gn := gn) (gc := gc) (X := mapA wE vE okZ mh [(q, ())] * (mapA pE iE okU ma [((), q)] * F)) (g4.eqv (by ac_rfl))
  have G1 := Lib.hid g1
  have G2 := Lib.hid g2
  have G3 := Lib.hid g3
  have G4 := Lib.hid g4
  have SZ : Hid (Sm w W9) := S6.out.drew.trans (z1.trans (z2.trans (z3.trans z4)))
  have f9 := (g4.eqv (by ac_rfl : _ = pts s (.cells #[.map (some ma), .map (some mh), .int .i64 l] 127 (0, 0)) * (mapA wE vE okZ mh [(q, ())] * (mapA pE iE okU ma [((), q)] * (pts bx (.cells #[.int .i64 1, .int .i64 1, .string ⟨#[47, 107]⟩, .string ⟨#[]⟩, .string ⟨#[]⟩, .int .i64 q, .slice ga gn gc] 63 (0, 0)) * (pts ow (.cells #[.int .i64 1, .string ⟨#[47, 107]⟩, .string ⟨#[]⟩] 160 (0, 0)) * F))))))
  have f10 : Holds (W9.setCell ⟨s, 2, none⟩ (.int .i64 q)) (pts s (.cells #[.map (some ma), .map (some mh), .int .i64 q] 127 (0, 0)) * (mapA wE vE okZ mh [(q, ())] * (mapA pE iE okU ma [((), q)] * (pts bx (.cells #[.int .i64 1, .int .i64 1, .string ⟨#[47, 107]⟩, .string ⟨#[]⟩, .string ⟨#[]⟩, .int .i64 q, .slice ga gn gc] 63 (0, 0)) * (pts ow (.cells #[.int .i64 1, .string ⟨#[47, 107]⟩, .string ⟨#[]⟩] 160 (0, 0)) * F))))) := f9.store 2 (.int .i64 q)
  have y10 := facts8 (s := s) (bx := bx) (ow := ow) (ma := ma) (mh := mh) (l := q) (q := q) (ga := ga) (gn := gn) (gc := gc) (X := mapA wE vE okZ mh [(q, ())] * (mapA pE iE okU ma [((), q)] * F)) (f10.eqv (by ac_rfl))
  have F10 : Hid (Holds (W9.setCell ⟨s, 2, none⟩ (.int .i64 q)) (stA s (some q) q * F)) := st_shut (ma := ma) (mh := mh) (x := some q) ((f10.eqv (by simp only [Option.toList, List.map]; ac_rfl : _ = pts ow (.cells #[.int .i64 1, .string ⟨#[47, 107]⟩, .string ⟨#[]⟩] 160 (0, 0)) * (pts bx (.cells #[.int .i64 1, .int .i64 1, .string ⟨#[47, 107]⟩, .string ⟨#[]⟩, .string ⟨#[]⟩, .int .i64 q, .slice ga gn gc] 63 (0, 0)) * (pts s (.cells #[.map (some ma), .map (some mh), .int .i64 q] 127 (0, 0)) * (mapA pE iE okU ma ((some q).toList.map fun i => ((), i)) * (mapA wE vE okZ mh ((some q).toList.map fun i => (i, ())) * F)))))).right.right)
  have fz := f9.frozen 2
  have f2 := f9.cell 2
  simp at f2
  have fl := f9.lt
  clear g1 g2 g3 g4 z1 z2 z3 z4 S6 HB HO f9 f10
  go_wp2_with fail
  go_region_held3 (fun w' => w'.cell? ⟨s, 0, none⟩ = some (.map (some ma)) ∧ w'.cell? ⟨s, 1, none⟩ = some (.map (some mh)) ∧ w'.cell? ⟨bx, 1, none⟩ = some (.int .i64 1) ∧ w'.cell? ⟨bx, 4, none⟩ = some (.string ⟨#[]⟩) ∧ w'.cell? ⟨bx, 5, none⟩ = some (.int .i64 q) ∧ w'.cell? ⟨ow, 0, none⟩ = some (.int .i64 1) ∧ w'.cell? ⟨ow, 1, none⟩ = some (.string ⟨#[47, 107]⟩) ∧ w'.cell? ⟨ow, 2, none⟩ = some (.string ⟨#[]⟩)) (first | exact ⟨t0, t1, x1, x4, x5, o0, o1, o2⟩ | exact y6 | exact y7 | exact y8 | exact y9 | exact y10 | go_keep) (first | fail)
  go_wp2_with fail
  go_ret
  exact ⟨rfl, F10.out, SZ.out.setCell _ _⟩
#print axioms install_calls
end Go.Proofs.Ytefcinifaaablaa.Ord
