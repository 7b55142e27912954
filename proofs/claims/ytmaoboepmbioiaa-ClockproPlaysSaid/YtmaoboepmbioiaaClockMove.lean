/-
  Layer 19: move and drop.
-/
import Derived.Test.YtmaoboepmbioiaaClockRaw
namespace Go.Proofs.Ytmaoboepmbioiaa.Clock
open Go.RowKit Go.Sep
set_option maxRecDepth 100000
set_option linter.unusedVariables false
set_option linter.unusedSimpArgs false

theorem raw_hd {w : World} {D : Raw} {F : Asr} (h : Holds w (rawA D * F)) : Holds w (hdA D.a D.R D.P D.most D.target * (mapA iK pa okK D.R (rmE D.rb) * (mapA iK pa okK D.P D.E * (ringsA D.rb D.L * nodesA D.f D.bs)) * F)) := h.eqv (by unfold rawA; ac_rfl)
theorem raw_R {w : World} {D : Raw} {F : Asr} (h : Holds w (rawA D * F)) : Holds w (mapA iK pa okK D.R (rmE D.rb) * (hdA D.a D.R D.P D.most D.target * (mapA iK pa okK D.P D.E * (ringsA D.rb D.L * nodesA D.f D.bs)) * F)) := h.eqv (by unfold rawA; ac_rfl)
theorem raw_P {w : World} {D : Raw} {F : Asr} (h : Holds w (rawA D * F)) : Holds w (mapA iK pa okK D.P D.E * (hdA D.a D.R D.P D.most D.target * (mapA iK pa okK D.R (rmE D.rb) * (ringsA D.rb D.L * nodesA D.f D.bs)) * F)) := h.eqv (by unfold rawA; ac_rfl)
theorem raw_nodes {w : World} {D : Raw} {F : Asr} (h : Holds w (rawA D * F)) : Holds w (nodesA D.f D.bs * (hdA D.a D.R D.P D.most D.target * (mapA iK pa okK D.R (rmE D.rb) * (mapA iK pa okK D.P D.E * ringsA D.rb D.L)) * F)) := h.eqv (by unfold rawA; ac_rfl)
theorem raw_nodes' {w : World} {D : Raw} {F : Asr} {f : Nat → Nd} (h : Holds w (nodesA f D.bs * (hdA D.a D.R D.P D.most D.target * (mapA iK pa okK D.R (rmE D.rb) * (mapA iK pa okK D.P D.E * ringsA D.rb D.L)) * F))) : Holds w (rawA { D with f := f } * F) := h.eqv (by unfold rawA; ac_rfl)

theorem raw_P' {w : World} {D : Raw} {F : Asr} {E : List (Int × Nat)} (h : Holds w (mapA iK pa okK D.P E * (hdA D.a D.R D.P D.most D.target * (mapA iK pa okK D.R (rmE D.rb) * (ringsA D.rb D.L * nodesA D.f D.bs)) * F))) : Holds w (rawA { D with E := E } * F) := h.eqv (by unfold rawA; ac_rfl)
theorem look_ring {w : World} {D : Raw} {F : Asr} (h : Holds w (rawA D * F)) (k : Int) (hk : isK k) : (Instr.lookup 156 (.map (some D.R)) (.int .i64 k) false).run Try.prog w = .ok (.pointer (some ⟨D.rb k, 0, none⟩)) w := by
  have := mapA_look false intK Try.underlying156 (z := .pointer none) (fun w => by kernel_rfl) (raw_R h) k (by unfold okK; rcases hk with rfl | rfl | rfl <;> decide)
  rcases hk with rfl | rfl | rfl <;> simpa [rmE, getK, iK, pa] using this
theorem ring_focus {w : World} {D : Raw} {F : Asr} (h : Holds w (rawA D * F)) (k : Int) (hk : isK k) : ∃ X, Holds w (ringA (D.rb k) (D.L k) * (nodesA D.f D.bs * X)) ∧
    ∀ w' (L' : Int → List Nat) f', (∀ j, j ≠ k → L' j = D.L j) → Holds w' (ringA (D.rb k) (L' k) * (nodesA f' D.bs * X)) → Holds w' (rawA { D with L := L', f := f' } * F) := by
  obtain ⟨X, hX⟩ := rings_at D.rb D.L k hk
  refine ⟨hdA D.a D.R D.P D.most D.target * (mapA iK pa okK D.R (rmE D.rb) * (mapA iK pa okK D.P D.E * X)) * F, h.eqv ?_, fun w' L' f' hL h' => h'.eqv ?_⟩
  · unfold rawA; rw [hX D.L fun _ _ => rfl]; ac_rfl
  · unfold rawA; simp only; rw [hX L' hL]; ac_rfl

/-- after a ring was taken from -/
def Taken (D : Raw) (p : Nat) (F : Asr) (w : World) (e : Ending) (w' : World) : Prop :=
  e = .returned (.tuple #[]) ∧ ∃ f', Wf (outL D.L p) f' D.bs ∧ Kept D.f f' D.bs ∧ f' p = D.f p ∧ Holds w' (rawA { D with L := outL D.L p, f := f' } * F) ∧ Sm w w'
theorem take_raw (D : Raw) (F : Asr) (w : World) (p : Nat) (k : Int) (hk : isK k) (hp : p ∈ D.L k) (hwf : Wf D.L D.f D.bs) (hw : Holds w (rawA D * F)) :
    Calls Try.prog 110 #[.pointer (some ⟨D.rb k, 0, none⟩), .pointer (some ⟨p, 0, none⟩)] w (Taken D p F w) := by
  obtain ⟨A, B, hl, ho⟩ := split_at hp (hwf.ln k)
  obtain ⟨X, h1, h2⟩ := ring_focus hw k hk
  rw [hl] at h1
  refine (take_calls (D.rb k) p D.f D.bs A B X w hwf.nd (fun b hb => hwf.sub k b (by rw [hl]; exact hb)) (by rw [← hl]; exact hwf.ln k) (by rw [← hl]; exact hwf.rg k) (by rw [← hl]; exact Nat.le_trans (hwf.sz k) (by omega)) h1).mono ?_
  rintro e w' ⟨rfl, f', k1, k2, k3, k4⟩
  have ho' : outL D.L p k = A ++ B := ho
  have hpn : p ∉ A ++ B := by rw [← ho]; simp
  have hothers : ∀ j, j ≠ k → outL D.L p j = D.L j := fun j hj => filter_no fun h => hj ((hwf.kind j p h).1.symm.trans (hwf.kind k p hp).1)
  have kb : Kept D.f f' D.bs := fun b => ⟨(k2 b).1, (k2 b).2.1, (k2 b).2.2.1, fun hb => (k2 b).2.2.2 fun hb' => hb (hwf.sub k b ((List.mem_filter.1 (show b ∈ (D.L k).filter (· != p) by rw [ho]; exact hb')).1))⟩
  exact ⟨rfl, f', hwf.out p k hp (by rw [ho']; exact k1) (by rw [ho']; exact k2), kb, (k2 p).2.2.2 hpn, h2 w' (outL D.L p) f' hothers (by rw [ho']; exact k3), k4⟩
def PutIn (D : Raw) (p : Nat) (k : Int) (F : Asr) (w : World) (e : Ending) (w' : World) : Prop :=
  e = .returned (.tuple #[]) ∧ ∃ f', Wf (inL D.L p k) f' D.bs ∧ Kept D.f f' D.bs ∧ Holds w' (rawA { D with L := inL D.L p k, f := f' } * F) ∧ Sm w w'
theorem put_raw (D : Raw) (F : Asr) (w : World) (p : Nat) (k : Int) (hk : isK k) (hpb : p ∈ D.bs) (hp : ∀ j, p ∉ D.L j) (hfk : (D.f p).kind = k) (hsz : (D.L k).length < 9000) (hwf : Wf D.L D.f D.bs) (hw : Holds w (rawA D * F)) :
    Calls Try.prog 111 #[.pointer (some ⟨D.rb k, 0, none⟩), .pointer (some ⟨p, 0, none⟩)] w (PutIn D p k F w) := by
  obtain ⟨X, h1, h2⟩ := ring_focus hw k hk
  refine (put_calls (D.rb k) p D.f D.bs (D.L k) X w hwf.nd hpb (hwf.sub k) (hp k) (hwf.ln k) (hwf.rg k) (by omega) h1).mono ?_
  rintro e w' ⟨rfl, f', k1, k2, k3, k4⟩
  have hi : inL D.L p k k = D.L k ++ [p] := by simp [inL]
  have kb : Kept D.f f' D.bs := fun b => ⟨(k2 b).1, (k2 b).2.1, (k2 b).2.2.1, fun hb => (k2 b).2.2.2 fun hb' => by
    rcases List.mem_cons.1 hb' with rfl | hb'
    · exact hb hpb
    · exact hb (hwf.sub k b hb')⟩
  exact ⟨rfl, f', hwf.put p k hpb hp hk hfk k1 k2 hsz, kb, h2 w' (inL D.L p k) f' (fun j hj => by simp [inL, hj]) (by rw [hi]; exact k3), k4⟩

theorem kept_trans {f g h : Nat → Nd} {S : List Nat} (a : Kept f g S) (b : Kept g h S) : Kept f h S := fun k =>
  ⟨(b k).1.trans (a k).1, (b k).2.1.trans (a k).2.1, (b k).2.2.1.trans (a k).2.2.1, fun hk => ((b k).2.2.2 hk).trans ((a k).2.2.2 hk)⟩
/-- p stands last in ring k now -/
def Moved (D : Raw) (p : Nat) (k : Int) (F : Asr) (w : World) (e : Ending) (w' : World) : Prop :=
  e = .returned (.tuple #[]) ∧ ∃ f', Wf (inL (outL D.L p) p k) f' D.bs ∧ (∀ b, (f' b).id = (D.f b).id ∧ (f' b).mark = (D.f b).mark) ∧ Holds w' (rawA { D with L := inL (outL D.L p) p k, f := f' } * F) ∧ Sm w w'

set_option maxHeartbeats 2000000 in
theorem move_calls (D : Raw) (F : Asr) (w : World) (p : Nat) (k j : Int) (hk : isK k) (hj : isK j) (hp : p ∈ D.L j) (hsz : (D.L k).length < 9000) (hwf : Wf D.L D.f D.bs) (hw : Holds w (rawA D * F)) :
    Calls Try.prog 86 #[.pointer (some ⟨D.a, 0, none⟩), .pointer (some ⟨p, 0, none⟩), .int .i64 k] w (Moved D p k F w) := by
  have hh := raw_hd hw
  have a2 := hh.cell 2
  have al := hh.lt
  have hpb := hwf.sub j p hp
  have hn := raw_nodes hw
  have p1 := nodes_cell hn hpb hwf.nd 1
  have pl := nodes_lt hn hpb hwf.nd
  simp [Nd.cs, (hwf.kind j p hp).1] at p1
  simp at a2
  have lk := look_ring (w := w.drew) hw j hj
  have TK := Lib.hid (take_raw D F w.drew p j hj hp hwf hw)
  have d0 : (j != 0) = true := by rcases hj with rfl | rfl | rfl <;> decide
  have WF := Lib.hid hwf
  have PB := Lib.hid hpb
  have HJ := Lib.hid hj
  have HK := Lib.hid hk
  clear hh hn hwf hw hp hpb hj hk
  go_enter Try.func86, Try.ntmps86
  go_wp2_with fail
  refine wp_region_still_tail 10 (by kernel_rfl) (by kernel_rfl) ?_
  simp only [List.take_succ_cons, List.take_zero, List.drop_succ_cons, List.drop_zero]
  change wpStill _ _ w.drew _ _ _
  repeat (refine wpStill_step (fun K hK => ?_); go_simp; refine hK _ ?_; clear hK K)
  refine wpStill_nil ?_
  go_wp2_with fail
  refine (TK.out).mono ?_
  rintro e w1 ⟨rfl, f1, k1, k2, k3, k4, k5⟩
  have hn1 := raw_nodes k4
  have hh1 := raw_hd k4
  have c2 := hh1.cell 2
  have cl := hh1.lt
  have q1 := nodes_cell hn1 PB.out k1.nd 1
  have qf := nodes_frozen hn1 PB.out k1.nd 1
  have ql := nodes_lt hn1 PB.out k1.nd
  simp [Nd.cs] at q1 c2
  have H2 := raw_nodes' (nodes_store hn1 PB.out k1.nd 1 (.int .i64 k) { f1 p with kind := k } rfl)
  have lk2 := look_ring H2 k HK.out
  have hout : ∀ i, p ∉ outL D.L p i := fun i hi => by simp [outL] at hi
  have PT := Lib.hid (put_raw { D with L := outL D.L p, f := up f1 p { f1 p with kind := k } } F _ p k HK.out PB.out hout (by simp [up_same]) (Nat.lt_of_le_of_lt (List.length_filter_le _ _) hsz) (k1.kind0 p hout _) H2)
  have K2 := Lib.hid k2
  have S1 : Hid (Sm w w1) := (Sm.refl w).drew.trans k5
  clear hn1 hh1 H2 TK lk k1 k2 k3 k4 k5 hout
  go_wp2_with fail
  refine (PT.out).mono ?_
  rintro e w2 ⟨rfl, f2, j1, j2, j3, j4⟩
  have W2 := Lib.hid j1
  have J2 := Lib.hid j2
  have H3 := Lib.hid j3
  have S2 := Lib.hid ((S1.out.setCell _ _).trans j4)
  clear j1 j2 j3 j4
  go_wp2_with fail
  go_end0
  refine ⟨rfl, f2, W2.out, fun b => ?_, H3.out, S2.out⟩
  have e1 : (up f1 p { f1 p with kind := k } b).id = (f1 b).id := by unfold up; split <;> simp_all
  have e2 : (up f1 p { f1 p with kind := k } b).mark = (f1 b).mark := by unfold up; split <;> simp_all
  exact ⟨(J2.out b).1.trans (e1.trans (K2.out b).1), (J2.out b).2.2.1.trans (e2.trans (K2.out b).2.2.1)⟩
#print axioms move_calls

/-- p is no page any more -/
def Dropped (D : Raw) (p : Nat) (F : Asr) (w : World) (e : Ending) (w' : World) : Prop :=
  e = .returned (.tuple #[]) ∧ ∃ f', Wf (outL D.L p) f' D.bs ∧ (∀ b, (f' b).id = (D.f b).id ∧ (f' b).mark = (D.f b).mark) ∧ Holds w' (rawA { D with L := outL D.L p, f := f', E := delK D.E (D.f p).id } * F) ∧ Sm w w'
set_option maxHeartbeats 2000000 in
theorem drop_calls (D : Raw) (F : Asr) (w : World) (p : Nat) (j : Int) (hj : isK j) (hp : p ∈ D.L j) (hid : okK (D.f p).id) (hwf : Wf D.L D.f D.bs) (hw : Holds w (rawA D * F)) :
    Calls Try.prog 84 #[.pointer (some ⟨D.a, 0, none⟩), .pointer (some ⟨p, 0, none⟩)] w (Dropped D p F w) := by
  have hh := raw_hd hw
  have a2 := hh.cell 2
  have al := hh.lt
  have hpb := hwf.sub j p hp
  have hn := raw_nodes hw
  have p1 := nodes_cell hn hpb hwf.nd 1
  have pl := nodes_lt hn hpb hwf.nd
  simp [Nd.cs, (hwf.kind j p hp).1] at p1
  simp at a2
  have lk := look_ring (w := w.drew) hw j hj
  have TK := Lib.hid (take_raw D F w.drew p j hj hp hwf hw)
  have PB := Lib.hid hpb
  have ID := Lib.hid hid
  clear hh hn hwf hw hp hpb hj hid
  go_enter Try.func84, Try.ntmps84
  go_wp2_with fail
  go_still_tail 10, (by kernel_rfl)
  go_wp2_with fail
  refine (TK.out).mono ?_
  rintro e w1 ⟨rfl, f1, k1, k2, k3, k4, k5⟩
  have hn1 := raw_nodes k4
  have hh1 := raw_hd k4
  have c3 := hh1.cell 3
  have cl := hh1.lt
  have q0 := nodes_cell hn1 PB.out k1.nd 0
  have ql := nodes_lt hn1 PB.out k1.nd
  simp [Nd.cs, k3] at q0 c3
  have HP := Lib.hid (raw_P (w := w1.drew) k4)
  have W1 := Lib.hid k1
  have K2 := Lib.hid k2
  have S1 : Hid (Sm w w1) := (Sm.refl w).drew.trans k5
  clear hn1 hh1 TK lk k1 k2 k3 k4 k5
  go_wp2_with fail
  go_still_tail 8, (by kernel_rfl)
  go_wp2_with (refine wpList_delete_sep (w := w1.drew) rfl _ _ rfl intK Try.underlying157 HP.out (D.f p).id ID.out rfl rfl ?_)
  intro w2 h2 s2
  have H3 : Hid (Holds w2 (rawA { D with L := outL D.L p, f := f1, E := delK D.E (D.f p).id } * F)) := raw_P' (D := { D with L := outL D.L p, f := f1 }) h2
  have S2 := Lib.hid (S1.out.drew.trans s2)
  clear h2 s2 HP
  go_wp2_with fail
  go_end0
  exact ⟨rfl, f1, W1.out, fun b => ⟨(K2.out b).1, (K2.out b).2.2.1⟩, H3.out, S2.out⟩
#print axioms drop_calls
end Go.Proofs.Ytmaoboepmbioiaa.Clock
