/-
  Layer 17: lay.
-/
import Derived.Test.YtefcinifaaablaaStr3
namespace Go.Proofs.Ytefcinifaaablaa.Stripe
open Go.RowKit Go.Sep
set_option maxRecDepth 100000
set_option linter.unusedVariables false
set_option linter.unusedSimpArgs false

def layB (B : Bd) (t : Int) (k : List UInt8) (v : Int) : Bd := match prb B.l t k pL with
  | none => B
  | some j => { B with l := B.l.set j ⟨1, t, k, v⟩, used := B.used + if (B.l.getD j e0).st = 0 then 1 else 0 }
def LayC (gb i : Nat) (Bs : List Bd) (B' : Bd) (F : Asr) (w : World) (e : Ending) (w' : World) : Prop := e = .returned (.tuple #[]) ∧ Holds w' (bdA gb (Bs.set i B') * (slA B'.g B'.l * F)) ∧ Sm w w'
theorem sl_set {w : World} {g : Nat} {l : List Sl} {F : Asr} (h : Holds w (slA g l * F)) (j c : Nat) (hj : j < l.length) (hc : c < 4) (v : Value) (x : Sl) (hx : slE x = (slE l[j]).set c v) : Holds (w.setCell ⟨g, j * 4 + c, none⟩ v) (slA g (l.set j x) * F) := by
  have h2 := h.store (j * 4 + c) v
  rw [flat_set slE_len j c hj hc v x hx] at h2
  exact h2
theorem sl_put {w : World} {g : Nat} {l : List Sl} {F : Asr} (h : Holds w (slA g l * F)) (j : Nat) (hj : j < l.length) (x : Sl) : Holds ((((w.setCell ⟨g, j * 4, none⟩ (.int .i64 x.st)).setCell ⟨g, j * 4 + 1, none⟩ (.int .i64 x.t)).setCell ⟨g, j * 4 + 2, none⟩ (.string (ks x.k))).setCell ⟨g, j * 4 + 3, none⟩ (.int .i64 x.v)) (slA g (l.set j x) * F) := by
  obtain ⟨s, hs⟩ : ∃ q, l[j] = q := ⟨_, rfl⟩
  have h1 := sl_set h j 0 hj (by omega) (.int .i64 x.st) { s with st := x.st } (by rw [hs]; rfl)
  have h2 := sl_set h1 j 1 (by simpa using hj) (by omega) (.int .i64 x.t) { s with st := x.st, t := x.t } (by simp [slE])
  have h3 := sl_set h2 j 2 (by simpa using hj) (by omega) (.string (ks x.k)) { s with st := x.st, t := x.t, k := x.k } (by simp [slE])
  have h4 := sl_set h3 j 3 (by simpa using hj) (by omega) (.int .i64 x.v) x (by simp [slE])
  simpa using h4
theorem bd_set {w : World} {gb : Nat} {Bs : List Bd} {F : Asr} (h : Holds w (bdA gb Bs * F)) (i c : Nat) (hi : i < Bs.length) (hc : c < 5) (v : Value) (x : Bd) (hx : bE x = (bE Bs[i]).set c v) : Holds (w.setCell ⟨gb, i * 5 + c, none⟩ v) (bdA gb (Bs.set i x) * F) := by
  have h2 := h.store (i * 5 + c) v
  rw [flat_set bE_len i c hi hc v x hx] at h2
  exact h2
theorem bd_eq {gb i : Nat} {Bs : List Bd} {B1 B2 : Bd} (h : bE B1 = bE B2) : bdA gb (Bs.set i B1) = bdA gb (Bs.set i B2) := by
  unfold bdA flat
  rw [List.flatMap_def, List.flatMap_def, List.map_set, List.map_set, h]
theorem bd_same {gb i : Nat} {Bs : List Bd} (hi : i < Bs.length) {B : Bd} (h : bE B = bE Bs[i]) : bdA gb (Bs.set i B) = bdA gb Bs := by
  rw [bd_eq h, List.set_getElem_self]
set_option maxHeartbeats 4000000 in
theorem lay_calls (gb i : Nat) (Bs : List Bd) (hi : i < Bs.length) (B : Bd) (hB : Bs[i] = B) (h0 : 0 < B.l.length) (h1 : B.l.length ≤ 100000) (hu : B.used ≤ 100000) (t : Int) (k : List UInt8) (v : Int) (hk : k.length ≤ 1000) (hr : prb B.l t k pL ≠ none) (F : Asr) (w : World) (hw : Holds w (bdA gb Bs * (slA B.g B.l * F))) :
    Calls Try.prog 64 #[.pointer (some ⟨gb, i * 5, none⟩), .agg #[.int .i64 t, .string (ks k)], .int .i64 v] w (LayC gb i Bs (layB B t k v) F w) := by
  have PL := Lib.hid (fun (wq : World) (hq : Holds wq (bdA gb Bs * (slA B.g B.l * F))) => probe_calls B.g B.l h0 h1 t k hk pL (bdA gb Bs * F) (fun j hj wq hq => layP_calls B.g B.l _ j hj wq hq) wq (hq.eqv (star_left_comm _ _ _)))
  obtain ⟨j, hj⟩ : ∃ j, prb B.l t k pL = some j := Option.ne_none_iff_exists'.1 hr
  obtain ⟨hjl, hpj⟩ := prb_lt hj
  rw [hj] at PL
  have LE : layB B t k v = { B with l := B.l.set j ⟨1, t, k, v⟩, used := B.used + if (B.l.getD j e0).st = 0 then 1 else 0 } := by unfold layB; rw [hj]
  rw [LE]
  rw [List.getD_eq_getElem?_getD, List.getElem?_eq_getElem hjl, Option.getD_some]
  have HW := Lib.hid hw
  have HF : Hid (∀ (wq : World) (hq : Holds wq (bdA gb Bs * (slA B.g B.l * F))), BdF wq gb i B ∧ SlF wq B.g j B.l[j]) := fun wq hq => ⟨by have := bd_f hq i hi; rw [hB] at this; exact this, sl_f (hq.eqv (star_left_comm _ _ _)) j hjl⟩
  obtain ⟨s, hs⟩ : ∃ q, B.l[j] = q := ⟨_, rfl⟩
  rw [hs] at HF ⊢
  obtain ⟨u2, hu2⟩ : ∃ q, (B.used + if s.st = 0 then 1 else 0) = q := ⟨_, rfl⟩
  rw [hu2]
  have HU := Lib.hid hu2
  clear hu2
  have B0 : Hid (Below w.heap.size w (w.alloc (.cells #[.int .i64 t, .string (ks k)] 74))) := (Below.refl _ w).alloc (Nat.le_refl _) _
  have hA := hw.alloc (.cells #[.int .i64 t, .string (ks k)] 74)
  have hA2 := hw.grow B0.out
  obtain ⟨n0, n1⟩ := nam_cell hA
  obtain ⟨⟨c0, c1, c2, c3, c4, fz, -⟩, -⟩ := HF.out _ hA2
  have lta : gb < w.heap.size := (HF.out _ hw).1.lt
  have ltb : B.g < w.heap.size := (HF.out _ hw).2.lt
  have gne : gb ≠ B.g := hw.ne
  have PL1 := Lib.hid (PL.out (w.alloc (.cells #[.int .i64 t, .string (ks k)] 74)).drew hA2.drew)
  obtain ⟨W0, hW0⟩ : ∃ q, w.alloc (.cells #[.int .i64 t, .string (ks k)] 74) = q := ⟨_, rfl⟩
  have HW0 := Lib.hid hW0
  rw [hW0] at n0 n1 c0 PL1 B0
  have LB : w.heap.size < W0.heap.size := by rw [← hW0]; simp
  have LB' := Lib.hid LB
  have HK2 : Hid (∀ (G : Asr) wq, Holds wq (slA B.g B.l * G) → Holds ((((wq.setCell ⟨B.g, j * 4, none⟩ (.int .i64 1)).setCell ⟨B.g, j * 4 + 1, none⟩ (.int .i64 t)).setCell ⟨B.g, j * 4 + 2, none⟩ (.string (ks k))).setCell ⟨B.g, j * 4 + 3, none⟩ (.int .i64 v)) (slA B.g (B.l.set j ⟨1, t, k, v⟩) * G)) := fun G wq hq => sl_put hq j hjl ⟨1, t, k, v⟩
  obtain ⟨N, hN⟩ : ∃ q, ks k = q := ⟨_, rfl⟩
  rw [hN] at PL1 n1 HW0 HK2 ⊢
  have M0 := Lib.hid n0
  have M1 := Lib.hid n1
  clear hw hA hA2 hj hN c1 c2 c3 c4 h0 h1 PL hk hW0 fz LB hs LE hpj hr
  go_enter Try.func64, Try.ntmps64
  go_wp2_with fail
  rw [HW0.out]
  go_still_tail 5, (by kernel_rfl)
  go_wp2_with fail
  refine (PL1.out).mono ?_
  rintro e w2 ⟨rfl, b2⟩
  have b3 := (below_drewN (Below.refl W0.heap.size W0) 1).trans b2
  have B2 : Hid (Below w.heap.size w w2) := B0.out.trans (b3.mono B0.out.size)
  have n0 : w2.cell? ⟨w.heap.size, 0, none⟩ = some (.int .i64 t) := (b3.cell (p := ⟨w.heap.size, 0, none⟩) LB'.out).trans M0.out
  have n1 : w2.cell? ⟨w.heap.size, 1, none⟩ = some (.string N) := (b3.cell (p := ⟨w.heap.size, 1, none⟩) LB'.out).trans M1.out
  have H2 := HW.out.grow B2.out
  obtain ⟨⟨d0, d1, d2, d3, d4, dz, dt⟩, ⟨s0, s1, s2, s3, sz, st⟩⟩ := HF.out _ H2
  have HH2 := Lib.hid H2
  have SM := Lib.hid (Sm.of_below B2.out)
  have na : w.heap.size ≠ gb := by omega
  have nb : w.heap.size ≠ B.g := by omega
  have au : IntKind.i64.wrap ((B.used : Int) + 1) = (B.used : Int) + 1 := IntWalk.i64_in _ (by omega)
  clear b2 b3 PL1 M0 M1 c0 H2 d0 d2 d3 d4
  unfold ptr
  by_cases hz : s.st = 0
  · rw [hz] at s0
    have hz9 := Lib.hid hz
    clear lta ltb hz
    go_wp2_with fail
    go_end0
    have h5 := bd_set HH2.out i 1 hi (by omega) (.int .i64 ((B.used : Int) + 1)) { B with used := B.used + 1 } (by rw [hB]; rfl)
    have h6 := HK2.out _ _ (h5.eqv (star_left_comm _ _ _))
    have hu9 := HU.out
    rw [if_pos hz9.out] at hu9
    subst hu9
    refine ⟨rfl, (h6.eqv (star_left_comm _ _ _)).eqv (by rw [bd_eq (B2 := { B with l := B.l.set j ⟨1, t, k, v⟩, used := B.used + 1 }) (by simp [bE])]), ?_⟩
    exact (((((SM.out).setCell _ _).setCell _ _).setCell _ _).setCell _ _).setCell _ _
  · clear lta ltb
    have t1 : ((s.st : Int) == 0) = false := beq_eq_false_iff_ne.2 (by omega)
    have t1' : (s.st == 0) = false := beq_eq_false_iff_ne.2 hz
    have hz9 := Lib.hid hz
    clear hz
    go_wp2_with fail
    go_end0
    have h6 := HK2.out _ _ (HH2.out.eqv (star_left_comm _ _ _))
    have hu9 := HU.out
    rw [if_neg hz9.out, Nat.add_zero] at hu9
    subst hu9
    refine ⟨rfl, (h6.eqv (star_left_comm _ _ _)).eqv (by rw [bd_same hi (B := { B with l := B.l.set j ⟨1, t, k, v⟩, used := B.used }) (by rw [hB]; simp [bE])]), ?_⟩
    exact ((((SM.out).setCell _ _).setCell _ _).setCell _ _).setCell _ _
#print axioms lay_calls
end Go.Proofs.Ytefcinifaaablaa.Stripe
