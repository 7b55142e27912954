/-
  FramingOf: the body of any message is framed as the document says: the law returns true for every request, response and method. No conditions.
-/
import Derived.Test.YtefcinifaaablaaDoorRows
import Derived.Test.YtefcinifaaablaaDoorCards
import Derived.Test.YtefcinifaaablaaDoorTie
import Derived.SevenTiedAt
import Derived.LaidMore
import Derived.Lay
import Derived.Test.YtefcinifaaablaaDoorFldArg
import Derived.WalkKit
import Derived.ProofKit
import Derived.OpenShut
import Derived.ShutString
import Derived.ChangeOld
import Derived.Below
import Derived.Lib.SmallJoins
import Derived.Lib.LaidTab
import Derived.Stop.LaidErr
namespace Go.Proofs.YtefcinifaaablaaDoor.framingOf
open Go.ChangeShapes Go.WideShapes Go.ChangeAt Go.RowKit
open Go.ChangeMaps (open_string shut_string)
set_option linter.unusedVariables false
set_option linter.unusedSimpArgs false

theorem own : ownKnob Tryd.prog.godebug = none := by kernel_rfl
theorem laidOut : laidOutB Tryd.prog = true := by kernel_rfl

set_option maxRecDepth 100000 in
theorem lifted (os : Os) (started : os.Started) (H : Type) (enc : TypeId × Value → H) :
    ReturnsInHanded {} Tryd.checked os 5 .any (fun w args => (Rows.framingOfSpec.pre enc Tryd.prog Tryd.f5 Rows.framingOfRow.domain false w args ∧ laidMetH Tryd.prog Rows.framingOfRow.laid w) ∧ sizedMet enc Tryd.prog Tryd.f5 (OpenSpec.ofChange Rows.framingOfSpec) false w args)
      (Rows.framingOfSpec.post enc Tryd.prog Tryd.f5 false true false false) := by
  refine returnsInHanded_of_change_and (C := Tryd.checked) (X := fun w _ => laidMetH Tryd.prog Rows.framingOfRow.laid w) (fun _ _ _ hh h => h.of_heap hh) own started (by kernel_rfl) Tryd.func5
    (ChangeSpec.witness_shaped (enc := enc) (C := Tryd.checked) (os := os) (X := fun w _ => laidMetH Tryd.prog Rows.framingOfRow.laid w) false (World.laidAll Tryd.prog os Rows.framingOfRow.laid) #[.agg #[.string ⟨#[]⟩, .string ⟨#[]⟩, .int .i64 0, .slice none 0 0], .agg #[.int .i64 0, .int .i64 0, .string ⟨#[]⟩, .slice none 0 0], .string ⟨#[]⟩] 8 (World.laidAll_os _ _ _)
      (World.shaped_of_ZipB (by kernel_rfl) (by kernel_rfl)) (by kernel_rfl) (by kernel_rfl) (by kernel_rfl)
      (by rw [MakeChecks.laidMetH_plain _ _ _ (by kernel_rfl)]; exact laidMet_laidAll _ (by kernel_rfl) (by kernel_rfl))) ?_
  intro W base args ds gs before hval0 hW hcnd hsz hx hy
  have hval : ∀ (j : Nat) t v, Tryd.f5.params[j]? = some t → args[j]? = some v → Value.okWide Tryd.prog W .any base t v := hval0
  have hW' := hW
  obtain ⟨p, q, hA0, hV, rfl, hfz, hnd⟩ := hW
  have hA : DataW.TrodAll enc Tryd.prog W 0 (fun _ => true) true Tryd.f5.params.toList args.toList ds p := hA0
  rw [Tryd.params5] at hA hval
  obtain ⟨v0, vs0, d0, ds0, p0, q0, hargs, rfl, rfl, h0, r0⟩ := trodAll_cons hA
  obtain ⟨v1, vs1, d1, ds1, p1, q1, rfl, rfl, rfl, h1, r1⟩ := trodAll_cons r0
  obtain ⟨v2, vs2, d2, ds2, p2, q2, rfl, rfl, rfl, h2, r2⟩ := trodAll_cons r1
  obtain ⟨rfl, rfl, rfl⟩ := trodAll_nil r2
  obtain rfl : args = #[v0, v1, v2] := by cases args; simp_all
  obtain ⟨rfl, rfl⟩ := trodVars_none hV
  have k0 := h0
  have k1 := h1
  have k2 := h2
  have lt0 : ∀ x ∈ p0, x.block < W.heap.size := by obtain ⟨m, hm⟩ := k0; exact DataW.trod_lt m _ _ _ hm
  have lt1 : ∀ x ∈ p1, x.block < W.heap.size := by obtain ⟨m, hm⟩ := k1; exact DataW.trod_lt m _ _ _ hm
  have lt2 : ∀ x ∈ p2, x.block < W.heap.size := by obtain ⟨m, hm⟩ := k2; exact DataW.trod_lt m _ _ _ hm
  obtain ⟨m, rfl, -, -, -⟩ := open_string Tryd.underlying9 (hval 2 9 v2 rfl rfl) h2
  obtain ⟨c0, c1, c2, c3, y0, y1, y2, y3, n0, rfl, hd0, -, t0, t1, t2, t3⟩ := Go.Joins.open_agg4 Tryd.underlying34 (by kernel_rfl) (by kernel_rfl) (hval 0 34 v0 rfl rfl) h0
  obtain ⟨e0, e1, e2, e3, z0, z1, z2, z3, n1, rfl, hd1, -, u0, u1, u2, u3⟩ := Go.Joins.open_agg4 Tryd.underlying37 (by kernel_rfl) (by kernel_rfl) (hval 1 37 v1 rfl rfl) h1
  obtain ⟨a1, E0, -⟩ := DataW.trod_string Tryd.underlying9 t0
  obtain ⟨a2, E1, -⟩ := DataW.trod_string Tryd.underlying9 t1
  obtain ⟨mi1, E2, -⟩ := DataW.trod_int Tryd.underlying3 t2
  obtain ⟨mi2, F0, -⟩ := DataW.trod_int Tryd.underlying3 u0
  obtain ⟨code, F1, -⟩ := DataW.trod_int Tryd.underlying3 u1
  obtain ⟨rs, F2, -⟩ := DataW.trod_string Tryd.underlying9 u2
  have wt : ∀ (j : Nat) (t : TypeId) (d : DataW H) (tl : TypeId) (x : DataW H), ([34, 37, 9] : List TypeId)[j]? = some t → ([d0, d1, d2] : List (DataW H))[j]? = some d → (∀ k ∈ x.weights Tryd.prog tl, k ∈ d.weights Tryd.prog t) → ∀ k ∈ x.weights Tryd.prog tl, k ≤ reachBytes := by
    intro j t d tl x hj hd hx k hk
    have := List.all_eq_true.1 hsz k (DataW.weights_mem_each (j := j) (t := t) (d := d) (by rw [Tryd.params5]; exact hj) (by simpa using hd) k (hx k hk))
    simpa using this
  obtain ⟨ao1, n1', cap1, fs1, E3, G1⟩ := Tok.open_fields t3 (wt 0 _ _ _ _ rfl rfl (fun k hk => by rw [hd0]; simp only [DataW.weights, Tryd.underlying34, DataW.weightsEach, List.map]; simp only [List.mem_append]; exact .inr (.inr (.inr (.inl hk)))))
  obtain ⟨ao2, n2', cap2, fs2, F3, G2⟩ := Tok.open_fields u3 (wt 1 _ _ _ _ rfl rfl (fun k hk => by rw [hd1]; simp only [DataW.weights, Tryd.underlying37, DataW.weightsEach, List.map]; simp only [List.mem_append]; exact .inr (.inr (.inr (.inl hk)))))
  simp only [List.cons.injEq, and_true] at E0 E1 E2 E3 F0 F1 F2 F3
  subst E0 E1 E2 E3 F0 F1 F2 F3
  clear hA0 hval0
  refine (Tok.of_walk a1 a2 rs m mi1 mi2 code ao1 ao2 n1' n2' cap1 cap2 fs1 fs2 W G1 G2).mono fun e W' ⟨he, bel⟩ => ?_
  subst he
  exact ⟨_, rfl, _, _, _, [], _, [], hW', trodAll_mk1 (shut_bool Tryd.underlying4 _), (trodAll_cons_mk (Below.trod laidOut (by kernel_rfl) (of_decide_eq_true (by kernel_rfl)) k0 bel lt0) (trodAll_cons_mk (Below.trod laidOut (by kernel_rfl) (of_decide_eq_true (by kernel_rfl)) k1 bel lt1) (trodAll_cons_mk (Below.trod laidOut (by kernel_rfl) (of_decide_eq_true (by kernel_rfl)) k2 bel lt2) trodAll_mk0))), rfl, bel.frame _, fun h => by cases h⟩

theorem over : Rows.framingOfRow.holds Tryd.pinned (OpenSpec.ofChange Rows.framingOfSpec) :=
  OpenClaim.holds_of_wide 5 Tryd.f5 rfl rfl rfl rfl rfl rfl rfl ⟨rfl, rfl, rfl, rfl, rfl⟩ rfl rfl rfl rfl rfl (by kernel_rfl) Tryd.func5 (by kernel_rfl)
    (of_decide_eq_true (by kernel_rfl)) (by unfold Func.isWrapper; first | (rw [if_pos (by decide +kernel)]; kernel_rfl) | (rw [if_neg (by decide +kernel)]; exact ⟨rfl, rfl⟩))
    (fun os started H enc _ => lifted os started H enc)

/-- THE STATEMENT (the tied card) -/
theorem proved : Rows.FramingOfCardSaid :=
  Claim7.holds_tied_plain_at .later [] [.data, .pinned] true (true, "d51983223a3c3ef5f45946a58e9804a8989f8ff4ec2f3a73eb9d2b03b044cba1") false
    over (fun _ h => by cases h) (by kernel_rfl) (fun _ h => by cases h) framingOf_row_tie rfl ⟨rfl, rfl⟩ (by kernel_rfl) rfl
    (fun f fn hf hfn => by
      obtain rfl : f = 5 := Option.some.inj ((show Tryd.prog.funcNamed "gatepost/gatepostlaw06.FramingOf" = some 5 by kernel_rfl).symm.trans hf) |>.symm
      obtain rfl : fn = Tryd.f5 := (Option.some.inj (Tryd.func5.symm.trans hfn)).symm
      exact ⟨by kernel_rfl, fun j t ht => by
        rw [Tryd.params5] at ht
        have hm : t ∈ [34, 37, 9] := by simpa using Array.mem_of_getElem? ht
        have hall : ([34, 37, 9].all fun u => !Tryd.prog.wantsStandIn u) = true := by kernel_rfl
        exact (show Tryd.prog.wantsStandIn t = false by simpa using List.all_eq_true.1 hall t hm)⟩)
    (by kernel_rfl)
#print axioms proved
end Go.Proofs.YtefcinifaaablaaDoor.framingOf
