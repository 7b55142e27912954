/-
  Layer 27: the store of one version; fresh, any, the tests of keys.
-/
import Derived.Test.YtefcinifaaablaaOrd1
import Derived.Test.YtefcinifaaablaaProg
import Derived.WalkKit
import Derived.Lib.Bytes
namespace Go.Proofs.Ytefcinifaaablaa.Ord
open Go.RowKit Go.Sep
set_option maxRecDepth 100000
set_option linter.unusedVariables false
set_option linter.unusedSimpArgs false

def kK : ByteArray := ⟨#[47, 107]⟩
def pE (_ : Unit) : Value := .agg #[.int .i64 1, .string ⟨#[47, 107]⟩, .string ⟨#[]⟩]
def iE (z : Int) : Value := .int .i64 z
def wE (z : Int) : Value := .agg #[.int .i64 1, .int .i64 z]
def vE (_ : Unit) : Value := .agg #[.int .i64 1, .string ⟨#[47, 107]⟩, .string ⟨#[]⟩, .string ⟨#[]⟩]
def okZ (z : Int) : Prop := 0 ≤ z ∧ z ≤ 100
def okU (_ : Unit) : Prop := True
theorem laidOut : laidOutB Try.prog = true := by kernel_rfl
theorem lawP : Go.Maps.Keyed Try.prog 160 := Go.Maps.Keyed.of_law (deep_law_laid laidOut (m := 3) (by omega) (of_decide_eq_true (by kernel_rfl)) (by kernel_rfl) (by rw [Try.underlying160]))
theorem lawW : Go.Maps.Keyed Try.prog 129 := Go.Maps.Keyed.of_law (deep_law_laid laidOut (m := 3) (by omega) (of_decide_eq_true (by kernel_rfl)) (by kernel_rfl) (by rw [Try.underlying129]))
theorem ktP : KeyT Try.prog 160 pE okU :=
  ⟨lawP, fun k _ => Option.isSome_iff_exists.1 (by kernel_rfl : (keyOf Try.prog 160 (.agg #[.int .i64 1, .string ⟨#[47, 107]⟩, .string ⟨#[]⟩])).isSome = true), fun _ _ _ => rfl⟩
theorem tsz : ∃ n, Try.prog.types.size = n + 1 := Nat.exists_eq_succ_of_ne_zero (Nat.pos_iff_ne_zero.1 (of_decide_eq_true (by kernel_rfl : decide (0 < Try.prog.types.size) = true)))
theorem key_w (P : Program) (t ti : TypeId) (n : Nat) (f0 f1 : Field) (hs : P.types.size = n + 1) (ht : P.underlying t = some (.struct #[f0, f1])) (hti : P.underlying ti = some (.int .i64)) (hkt : P.keyType t = true) (hc : P.cellsOf t = 2) (hc1 : P.cellsOf ti = 1)
    (g0 : f0.type = ti ∧ f0.offset = 0 ∧ f0.name ≠ "_") (g1 : f1.type = ti ∧ f1.offset = 1 ∧ f1.name ≠ "_") (a b : Int) (h1 : (Lit.int .i64 a).wf = true) (h2 : (Lit.int .i64 b).wf = true) : ∃ l, keyOf P t (.agg #[.int .i64 a, .int .i64 b]) = some l := by
  obtain ⟨e0, e1, e2⟩ := g0
  obtain ⟨e3, e4, e5⟩ := g1
  unfold keyOf
  simp [ht, hkt, Value.formed, hc, hs, Program.keyLits, hti, hc1, h1, h2, Value.cells, e0, e1, e2, e3, e4, e5]
theorem ktW : KeyT Try.prog 129 wE okZ :=
  ⟨lawW, fun k hk => by
    obtain ⟨n, hn⟩ := tsz
    have h2 : (Lit.int .i64 k).wf = true := by obtain ⟨a, b⟩ := hk; simp [Lit.wf, IntKind.min, IntKind.max, IntKind.signed, IntKind.bits]; omega
    exact key_w Try.prog 129 3 n _ _ hn Try.underlying129 Try.underlying3 (by kernel_rfl) (by kernel_rfl) (by kernel_rfl) ⟨rfl, rfl, by decide⟩ ⟨rfl, rfl, by decide⟩ 1 k (by decide) h2,
   fun a b h => by simp [wE] at h; exact h⟩
theorem zV (w : World) : (zeroValue 162).run Try.prog w = .ok (.agg #[.int .i64 0, .string ⟨#[]⟩, .string ⟨#[]⟩, .string ⟨#[]⟩]) w := by kernel_rfl
theorem zI (w : World) : (zeroValue 3).run Try.prog w = .ok (.int .i64 0) w := by kernel_rfl

def stA (s : Nat) (x : Option Int) (l : Int) : Asr := ex fun p : Nat × Nat => pts s (.cells #[.map (some p.1), .map (some p.2), .int .i64 l] 127 (0, 0)) * (mapA pE iE okU p.1 (x.toList.map fun i => ((), i)) * mapA wE vE okZ p.2 (x.toList.map fun i => (i, ())))
theorem st_open {s : Nat} {x : Option Int} {l : Int} {F : Asr} {w : World} (h : Holds w (stA s x l * F)) : ∃ ma mh, Holds w (pts s (.cells #[.map (some ma), .map (some mh), .int .i64 l] 127 (0, 0)) * (mapA pE iE okU ma (x.toList.map fun i => ((), i)) * (mapA wE vE okZ mh (x.toList.map fun i => (i, ())) * F))) := by
  unfold stA at h
  rw [ex_star] at h
  obtain ⟨p, h⟩ := holds_ex.1 h
  exact ⟨p.1, p.2, h.eqv (by ac_rfl)⟩
theorem st_shut {s ma mh : Nat} {x : Option Int} {l : Int} {F : Asr} {w : World} (h : Holds w (pts s (.cells #[.map (some ma), .map (some mh), .int .i64 l] 127 (0, 0)) * (mapA pE iE okU ma (x.toList.map fun i => ((), i)) * (mapA wE vE okZ mh (x.toList.map fun i => (i, ())) * F)))) : Holds w (stA s x l * F) := by
  unfold stA
  rw [ex_star]
  exact holds_ex.2 ⟨(ma, mh), h.eqv (by ac_rfl)⟩
def FreshC (F : Asr) (w : World) (e : Ending) (w' : World) : Prop := ∃ s, e = .returned (.pointer (some ⟨s, 0, none⟩)) ∧ Holds w' (stA s none 0 * F) ∧ Sm w w'
theorem fresh_calls (F : Asr) (w : World) (hw : Holds w F) : Calls Try.prog 57 #[] w (FreshC F w) := by
  have hA := mapA_new (ke := pE) (ve := iE) (ok := okU) (hw.alloc (.map #[] 0))
  have hB := mapA_new (ke := wE) (ve := vE) (ok := okZ) (hA.alloc (.map #[] 0))
  have hC := Lib.hid (hB.alloc (.cells #[.map (some w.heap.size), .map (some (w.heap.size + 1)), .int .i64 0] 127))
  have SC : Hid (Sm w (((w.alloc (.map #[] 0)).alloc (.map #[] 0)).alloc (.cells #[.map (some w.heap.size), .map (some (w.heap.size + 1)), .int .i64 0] 127))) := (((Sm.refl w).alloc _).alloc _).alloc _
  clear hA hB hw
  have hmm := @run_makeMap Try.prog
  go_enter Try.func57, Try.ntmps57
  go_wp2_with fail
  go_ret
  refine ⟨w.heap.size + 2, by simp, st_shut (ma := w.heap.size) (mh := w.heap.size + 1) (x := none) ?_, SC.out⟩
  have h := hC.out
  simp only [World.size_alloc] at h
  exact h.eqv (by simp only [Option.toList, List.map]; ac_rfl)
#print axioms fresh_calls
/-- one test of keys -/
theorem hp_calls (p : ByteArray) (hp : p = ⟨#[]⟩ ∨ p = ⟨#[47]⟩) (w : World) : Calls Try.prog 65 #[.string ⟨#[47, 107]⟩, .string p] w fun e w' => e = .returned (.bool true) ∧ Below w.heap.size w w' := by
  rcases hp with rfl | rfl
  · have H : Hid (∀ wq : World, Calls Try.prog 85 #[.string ⟨#[47, 107]⟩, .string ⟨#[]⟩] wq fun e w' => e = .returned (.bool true) ∧ Below wq.heap.size wq w') := by
      intro wq
      go_enter Try.func85, Try.ntmps85
      go_wp2_with fail
      go_ret
      exact ⟨rfl, Below.refl _ _⟩
    go_enter Try.func65, Try.ntmps65
    go_wp2_with fail
    refine (H.out _).mono ?_
    rintro e w1 ⟨rfl, b1⟩
    go_wp2_with fail
    go_ret
    exact ⟨rfl, b1⟩
  · have E1 : (((ByteArray.mk #[47, 107]).extract 0 1).toList == [47]) = true := by rw [Go.Lib.toList_data]; rfl
    have H : Hid (∀ wq : World, Calls Try.prog 85 #[.string ⟨#[47, 107]⟩, .string ⟨#[47]⟩] wq fun e w' => e = .returned (.bool true) ∧ Below wq.heap.size wq w') := by
      intro wq
      go_enter Try.func85, Try.ntmps85
      go_wp2_with fail
      go_ret
      exact ⟨rfl, Below.refl _ _⟩
    go_enter Try.func65, Try.ntmps65
    go_wp2_with fail
    refine (H.out _).mono ?_
    rintro e w1 ⟨rfl, b1⟩
    go_wp2_with fail
    go_ret
    exact ⟨rfl, b1⟩
#print axioms hp_calls
theorem any_none (s ma mh c : Nat) (l : Int) (fv : Value) (w : World) (h1 : w.cell? ⟨s, 1, none⟩ = some (.map (some mh))) (hm : w.heap[mh]? = some (.map #[] c)) :
    Calls Try.prog 93 #[.pointer (some ⟨s, 0, none⟩), .int .i64 1, fv] w fun e w' => e = .returned (.bool false) ∧ Below w.heap.size w w' := by
  have HM := Lib.hid hm
  have HB : Hid (Below w.heap.size w (w.alloc (.mapIter (some mh) c #[] c))) := (Below.refl _ w).alloc (Nat.le_refl _) _
  clear hm
  go_enter Try.func93, Try.ntmps93
  go_wp2_with (refine wpList_range_map rfl _ _ rfl Try.underlying125 rfl HM.out ?_)
  simp only [Act.put, List.setIfInBounds_toArray, List.set_cons_zero, List.set_cons_succ]
  go_loopw [6] (fun x wl => x = .bool false ∧ wl = w.alloc (.mapIter (some mh) c #[] c)) (fun _ _ => 0)
  case atStart => exact ⟨rfl, rfl⟩
  case round =>
    obtain ⟨rfl, rfl⟩ := hrel
    go_wp2_with (refine wpList_next0 rfl _ rfl HM.out rfl ?_)
    go_wp2_with fail
    go_ret
    exact ⟨rfl, HB.out⟩
#print axioms any_none
end Go.Proofs.Ytefcinifaaablaa.Ord
