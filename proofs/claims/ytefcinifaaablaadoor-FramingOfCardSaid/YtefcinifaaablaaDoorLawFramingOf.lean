/-
  FramingOf, the walk.
-/
import Derived.Test.YtefcinifaaablaaDoorOfP
import Derived.Test.YtefcinifaaablaaDoorLawFramingSame
namespace Go.Proofs.YtefcinifaaablaaDoor.Tok
open Go.RowKit Go.Sep
set_option maxRecDepth 100000
set_option linter.unusedVariables false
set_option linter.unusedSimpArgs false

def f7 : ByteArray × ByteArray := (cl2S, ⟨#[55]⟩)
theorem frm7 : frmL 1 [f7] 0 = ⟨1, 7, 0⟩ := by rfl
theorem ok7 : FdOk [f7] := fdok (fun f hf => by rw [List.mem_singleton.1 hf]; exact ⟨by decide, by decide⟩) (by simp)
structure ArgF (w : World) (ao : Option Addr) (n : Nat) (fs : List (ByteArray × ByteArray)) : Prop where
  fds : Fds w ao n fs
  sz : ∀ f ∈ fs, f.1.size ≤ 140737488351232 ∧ f.2.size ≤ 140737488351232
  n : n ≤ 140737488351232
theorem ArgF.grow {w w' : World} {ao : Option Addr} {n : Nat} {fs : List (ByteArray × ByteArray)} (h : ArgF w ao n fs) (hb : Below w.heap.size w w') : ArgF w' ao n fs := ⟨h.fds.grow hb, h.sz, h.n⟩
set_option maxHeartbeats 8000000 in
theorem of_walk (a1 a2 rs m : ByteArray) (mi1 mi2 code : Int) (ao1 ao2 : Option Addr) (n1 n2 cap1 cap2 : Nat) (fs1 fs2 : List (ByteArray × ByteArray)) (w : World) (h1 : ArgF w ao1 n1 fs1) (h2 : ArgF w ao2 n2 fs2) :
    Calls Tryd.prog 5 #[.agg #[.string a1, .string a2, .int .i64 mi1, .slice ao1 n1 cap1], .agg #[.int .i64 mi2, .int .i64 code, .string rs, .slice ao2 n2 cap2], .string m] w fun e w' => e = .returned (.bool true) ∧ Below w.heap.size w w' := by
  obtain ⟨W2, hW2⟩ : ∃ q, (w.alloc (.cells #[.string a1, .string a2, .int .i64 mi1, .slice ao1 n1 cap1] 34)).alloc (.cells #[.int .i64 mi2, .int .i64 code, .string rs, .slice ao2 n2 cap2] 37) = q := ⟨_, rfl⟩
  have B0 : Hid (Below w.heap.size w W2) := by rw [← hW2]; exact ((Below.refl _ w).alloc (Nat.le_refl _) _).alloc (by simp) _
  have hsz : W2.heap.size = w.heap.size + 2 := by rw [← hW2]; simp
  have CA : Hid (∀ j, W2.cell? ⟨w.heap.size, j, none⟩ = #[Value.string a1, .string a2, .int .i64 mi1, .slice ao1 n1 cap1][j]?) := by
    intro j; rw [← hW2, World.cell?_alloc_lt _ _ _ (by simp)]; exact World.cell?_alloc_at _ _ _ j (by simp)
  have CB : Hid (∀ j, W2.cell? ⟨w.heap.size + 1, j, none⟩ = #[Value.int .i64 mi2, .int .i64 code, .string rs, .slice ao2 n2 cap2][j]?) := by
    intro j; rw [← hW2]; exact World.cell?_alloc_at _ _ _ j (by simp)
  have K : Hid (∀ wq, Below W2.heap.size W2 wq → (wq.cell? ⟨w.heap.size, 0, none⟩ = some (.string a1) ∧ wq.cell? ⟨w.heap.size, 1, none⟩ = some (.string a2) ∧ wq.cell? ⟨w.heap.size, 2, none⟩ = some (.int .i64 mi1) ∧ wq.cell? ⟨w.heap.size, 3, none⟩ = some (.slice ao1 n1 cap1)) ∧ (wq.cell? ⟨w.heap.size + 1, 0, none⟩ = some (.int .i64 mi2) ∧ wq.cell? ⟨w.heap.size + 1, 1, none⟩ = some (.int .i64 code) ∧ wq.cell? ⟨w.heap.size + 1, 2, none⟩ = some (.string rs) ∧ wq.cell? ⟨w.heap.size + 1, 3, none⟩ = some (.slice ao2 n2 cap2)) ∧ Below w.heap.size w wq) := by
    intro wq hb
    have ca : ∀ j, wq.cell? ⟨w.heap.size, j, none⟩ = #[Value.string a1, .string a2, .int .i64 mi1, .slice ao1 n1 cap1][j]? := fun j => (hb.cell (p := ⟨w.heap.size, j, none⟩) (by show w.heap.size < _; omega)).trans (CA.out j)
    have cb : ∀ j, wq.cell? ⟨w.heap.size + 1, j, none⟩ = #[Value.int .i64 mi2, .int .i64 code, .string rs, .slice ao2 n2 cap2][j]? := fun j => (hb.cell (p := ⟨w.heap.size + 1, j, none⟩) (by show w.heap.size + 1 < _; omega)).trans (CB.out j)
    exact ⟨⟨ca 0, ca 1, ca 2, ca 3⟩, ⟨cb 0, cb 1, cb 2, cb 3⟩, B0.out.trans (hb.mono (by omega))⟩
  have FA : Hid (∀ wq, Below W2.heap.size W2 wq → ArgF wq ao1 n1 fs1) := fun wq hb => h1.grow (B0.out.trans (hb.mono (by omega)))
  have FB : Hid (∀ wq, Below W2.heap.size W2 wq → ArgF wq ao2 n2 fs2) := fun wq hb => h2.grow (B0.out.trans (hb.mono (by omega)))
  have C1 := Lib.hid (fun wq (hb : Below W2.heap.size W2 wq) => few_calls ao1 n1 cap1 fs1 wq (FA.out wq hb).fds (FA.out wq hb).sz (FA.out wq hb).n)
  have C2 := Lib.hid (fun wq (hb : Below W2.heap.size W2 wq) => few_calls ao2 n2 cap2 fs2 wq (FB.out wq hb).fds (FB.out wq hb).sz (FB.out wq hb).n)
  have C3 := Lib.hid (fun (hO : FdOk fs1) wq (hb : Below W2.heap.size W2 wq) => ofreq_calls a1 a2 mi1 ao1 n1 cap1 fs1 wq (FA.out wq hb).fds hO)
  have C4 := Lib.hid (fun (hO : FdOk fs1) wq (hb : Below W2.heap.size W2 wq) => rofreq_calls a1 a2 mi1 ao1 n1 cap1 fs1 wq (FA.out wq hb).fds hO)
  have C5 := Lib.hid (fun (hO : FdOk fs2) wq (hb : Below W2.heap.size W2 wq) => ofresp_calls mi2 code rs m ao2 n2 cap2 fs2 wq (FB.out wq hb).fds hO)
  have C6 := Lib.hid (fun (hO : FdOk fs2) wq (hb : Below W2.heap.size W2 wq) => rofresp_calls mi2 code rs m ao2 n2 cap2 fs2 wq (FB.out wq hb).fds hO)
  obtain ⟨⟨x1, x2, x3⟩, hX⟩ : ∃ q, frmL mi1 fs1 0 = q := ⟨_, rfl⟩
  obtain ⟨⟨y1, y2, y3⟩, hY⟩ : ∃ q, frmR mi2 code m fs2 = q := ⟨_, rfl⟩
  rw [hX] at C3 C4
  rw [hY] at C5 C6
  simp only at C3 C4 C5 C6
  obtain ⟨⟨d0, d1, d2, d3⟩, ⟨e0, e1, e2, e3⟩, -⟩ := K.out W2 (Below.refl _ _)
  have lA : w.heap.size < W2.heap.size := by omega
  have lB : w.heap.size + 1 < W2.heap.size := by omega
  clear h1 h2 hX hY FA FB CA CB B0
  go_enter Tryd.func5, Tryd.ntmps5
  go_wp2_with fail
  refine (C1.out _ (Below.refl _ _)).mono ?_
  rintro e w3 ⟨f1, rfl, O1, b3⟩
  obtain ⟨⟨d0, d1, d2, d3⟩, ⟨e0, e1, e2, e3⟩, bw⟩ := K.out w3 b3.out
  have BW3 := Lib.hid bw
  clear C1 bw
  cases f1 with
  | false =>
    go_wp2_with fail
    go_ret
    exact ⟨rfl, BW3.out⟩
  | true =>
  have HO1 := Lib.hid (O1.out rfl)
  clear O1 BW3
  go_wp2_with fail
  refine (C2.out _ b3.out).mono ?_
  rintro e w4 ⟨f2, rfl, O2, b4⟩
  have t4 : Hid (Below W2.heap.size W2 w4) := b3.out.trans (b4.out.mono b3.out.size)
  obtain ⟨⟨d0, d1, d2, d3⟩, ⟨e0, e1, e2, e3⟩, bw⟩ := K.out w4 t4.out
  have BW4 := Lib.hid bw
  clear C2 bw b3 b4
  cases f2 with
  | false =>
    go_wp2_with fail
    go_ret
    exact ⟨rfl, BW4.out⟩
  | true =>
  have HO2 := Lib.hid (O2.out rfl)
  clear O2 BW4
  go_wp2_with fail
  refine (C3.out HO1.out _ t4.out).mono ?_
  rintro e w5 ⟨rfl, b5⟩
  have t5 : Hid (Below W2.heap.size W2 w5) := t4.out.trans (b5.mono t4.out.size)
  obtain ⟨⟨d0, d1, d2, d3⟩, ⟨e0, e1, e2, e3⟩, -⟩ := K.out w5 t5.out
  clear C3 b5 t4
  go_wp2_with fail
  refine (C4.out HO1.out _ t5.out).mono ?_
  rintro e w6 ⟨rfl, b6⟩
  have t6 : Hid (Below W2.heap.size W2 w6) := t5.out.trans (b6.mono t5.out.size)
  obtain ⟨⟨d0, d1, d2, d3⟩, ⟨e0, e1, e2, e3⟩, -⟩ := K.out w6 t6.out
  clear C4 b6 t5 HO1
  go_wp2_with fail
  refine (C5.out HO2.out _ t6.out).mono ?_
  rintro e w7 ⟨rfl, b7⟩
  have t7 : Hid (Below W2.heap.size W2 w7) := t6.out.trans (b7.mono t6.out.size)
  obtain ⟨⟨d0, d1, d2, d3⟩, ⟨e0, e1, e2, e3⟩, -⟩ := K.out w7 t7.out
  clear C5 b7 t6
  go_wp2_with fail
  refine (C6.out HO2.out _ t7.out).mono ?_
  rintro e w8 ⟨rfl, b8⟩
  have t8 : Hid (Below W2.heap.size W2 w8) := t7.out.trans (b8.mono t7.out.size)
  obtain ⟨-, -, bw⟩ := K.out w8 t8.out
  have BW8 := Lib.hid bw
  clear C6 b8 t7 HO2 bw
  have F9 : Fds (w8.alloc (.cells #[.string ⟨#[99, 111, 110, 116, 101, 110, 116, 45, 108, 101, 110, 103, 116, 104]⟩, .string ⟨#[55]⟩] 28)) (some ⟨w8.heap.size, 0, none⟩) 1 [f7] := by
    refine ⟨rfl, fun _ => ⟨w8.heap.size, 0, rfl, by simp, fun i hi => ?_⟩⟩
    have : i = 0 := by simp at hi; omega
    subst this
    exact ⟨World.cell?_alloc_at _ _ _ 0 (by simp), World.cell?_alloc_at _ _ _ 1 (by simp)⟩
  have C7 := Lib.hid (ofreq_calls ⟨#[]⟩ ⟨#[]⟩ 1 (some ⟨w8.heap.size, 0, none⟩) 1 1 [f7] _ F9 ok7)
  rw [frm7] at C7
  have B9 : Hid (Below w.heap.size w (w8.alloc (.cells #[.string ⟨#[99, 111, 110, 116, 101, 110, 116, 45, 108, 101, 110, 103, 116, 104]⟩, .string ⟨#[55]⟩] 28))) := BW8.out.alloc BW8.out.size _
  clear F9 K t8 BW8
  go_wp2_with fail
  refine (C7.out).mono ?_
  rintro e w9 ⟨rfl, b9⟩
  have BX : Hid (Below w.heap.size w w9) := B9.out.trans (b9.mono B9.out.size)
  have NT := Lib.hid (names_true w9)
  clear b9 B9 C7
  go_wp2_with fail
  refine (NT.out).mono ?_
  rintro e w10 ⟨rfl, b10⟩
  have BZ : Hid (Below w.heap.size w w10) := BX.out.trans (b10.mono BX.out.size)
  clear b10 BX NT
  go_wp2_with fail
  go_ret
  exact ⟨rfl, BZ.out⟩
#print axioms of_walk
end Go.Proofs.YtefcinifaaablaaDoor.Tok
