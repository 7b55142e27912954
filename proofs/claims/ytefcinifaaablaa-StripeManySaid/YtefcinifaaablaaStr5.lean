/-
  Layer 17: grow.
-/
import Derived.Test.YtefcinifaaablaaStr4
import Derived.Deep.CutBlock
import Derived.Deep.DeepCutAuto
import Derived.Deep.RegionWith
namespace Go.Proofs.Ytefcinifaaablaa.Stripe
open Go.RowKit Go.Sep
set_option maxRecDepth 100000
set_option linter.unusedVariables false
set_option linter.unusedSimpArgs false

def mv1 (B : Bd) : Bd := if (B.el.getD B.moved e0).st = 1 then { layB B (B.el.getD B.moved e0).t (B.el.getD B.moved e0).k (B.el.getD B.moved e0).v with el := B.el.set B.moved { B.el.getD B.moved e0 with st := 2 }, moved := B.moved + 1 } else { B with moved := B.moved + 1 }
def stopM (B : Bd) : Bd := { B with eg := none, el := [], moved := 0 }
def mvF : Nat → Bd → Bd
  | 0, B => B
  | m + 1, B => if B.moved = B.el.length then stopM B else mvF m (mv1 B)
def growN (g : Nat) (B : Bd) : Bd := { B with g := g, l := List.replicate (max B.l.length (4 * B.count)) e0, used := 0, eg := some B.g, el := B.l, moved := 0 }
def growB (g : Nat) (B : Bd) : Bd := if (mvF 4 B).el.length = 0 ∧ (mvF 4 B).l.length ≤ 2 * (mvF 4 B).used then growN g (mvF 4 B) else mvF 4 B
structure Bas (B : Bd) : Prop where
  l0 : 0 < B.l.length
  l1 : B.l.length ≤ 100000
  e1 : B.el.length ≤ 100000
  u : B.used ≤ 50000
  m : B.moved ≤ B.el.length
  c : B.count ≤ 10000
  k : ∀ s ∈ B.el, s.k.length ≤ 1000
def OkM : Nat → Bd → Prop
  | 0, B => Bas B
  | m + 1, B => Bas B ∧ (B.moved = B.el.length → Bas (stopM B)) ∧ (B.moved < B.el.length → ((B.el.getD B.moved e0).st = 1 → prb B.l (B.el.getD B.moved e0).t (B.el.getD B.moved e0).k pL ≠ none) ∧ OkM m (mv1 B))
theorem okM_bas {m : Nat} {B : Bd} (h : OkM m B) : Bas B := by cases m; exact h; exact h.1
theorem layB_g (B : Bd) (t : Int) (k : List UInt8) (v : Int) : (layB B t k v).g = B.g ∧ (layB B t k v).eg = B.eg ∧ (layB B t k v).el = B.el ∧ (layB B t k v).moved = B.moved ∧ (layB B t k v).count = B.count := by unfold layB; split <;> exact ⟨rfl, rfl, rfl, rfl, rfl⟩
def GrowC (gb i : Nat) (Bs : List Bd) (B : Bd) (F : Asr) (w : World) (e : Ending) (w' : World) : Prop := ∃ g, e = .returned (.tuple #[]) ∧ Holds w' (bdA gb (Bs.set i (growB g B)) * (slA (growB g B).g (growB g B).l * (elA (growB g B).eg (growB g B).el * F))) ∧ Sm w w'
theorem infoSl : (Try.prog.info? 142).map (fun i => (i.zero, i.size, i.bytes)) = some (some (.agg #[.int .i64 0, .int .i64 0, .string ⟨#[]⟩, .int .i64 0]), 4, 40) := by kernel_rfl
theorem made4 (n : Nat) : madeCells #[Value.int .i64 0, .int .i64 0, .string ⟨#[]⟩, .int .i64 0] (n * 4) = flat slE (List.replicate n e0) := by
  apply Array.ext
  · rw [flat_size slE_len]; simp [madeCells]
  · intro i h1 h2
    have h3 : i < n * 4 := by simpa [madeCells] using h1
    have hq : i = i / 4 * 4 + i % 4 := by omega
    have h4 := flat_get slE_len (l := List.replicate n e0) (i / 4) (i % 4) (by rw [List.length_replicate]; omega) (by omega)
    rw [← hq, Array.getElem?_eq_getElem h2] at h4
    simp only [madeCells, Array.getElem_ofFn]
    have h5 : i % 4 = 0 ∨ i % 4 = 1 ∨ i % 4 = 2 ∨ i % 4 = 3 := by omega
    have hE : slE e0 = [Value.int .i64 0, .int .i64 0, .string ⟨#[]⟩, .int .i64 0] := rfl
    simp only [List.getElem_replicate, hE] at h4
    rcases h5 with h5 | h5 | h5 | h5 <;> (rw [h5] at h4; simp only [List.getElem?_cons_zero, List.getElem?_cons_succ, Option.some.injEq] at h4; rw [h4]; simp [h5])
theorem make_sl (n : Nat) (hn : n ≤ 1048576) (w : World) : (Instr.makeSlice 134 (.int .i64 n) (.int .i64 n)).run Try.prog w = .ok (.slice (some ⟨w.heap.size, 0, none⟩) n n) (w.alloc (.cells (flat slE (List.replicate n e0)) 142)) := by
  obtain ⟨i, hi, hz, hs, hb⟩ := info_parts (P := Try.prog) (e := 142) infoSl
  have h := run_make (P := Try.prog) w 134 142 i _ Try.underlying134 hi hz .i64 .i64 n n (by omega) (by omega) (by rw [hb]; omega) (by omega)
  rw [h]
  simp only [Int.toNat_natCast, hs, Value.cells, made4]
#print axioms make_sl
set_option maxHeartbeats 16000000 in
theorem grow_calls (gb i : Nat) (Bs : List Bd) (hi : i < Bs.length) (B : Bd) (hB : Bs[i] = B) (hok : OkM 4 B) (F : Asr) (w : World) (hw : Holds w (bdA gb Bs * (slA B.g B.l * (elA B.eg B.el * F)))) :
    Calls Try.prog 63 #[.pointer (some ⟨gb, i * 5, none⟩)] w (GrowC gb i Bs B F w) := by
  have HW : Hid (Holds w (bdA gb (Bs.set i B) * (slA B.g B.l * (elA B.eg B.el * F)))) := by
    show Holds _ _
    rw [← hB, List.set_getElem_self, hB]
    exact hw
  have HOK := Lib.hid hok
  obtain ⟨R, hR⟩ : ∃ q, mvF 4 B = q := ⟨_, rfl⟩
  have HR := Lib.hid hR
  obtain ⟨Q, hQ⟩ : ∃ q : World → Ending → World → Prop, (fun w e w' => GrowC gb i Bs B F w e w') = q := ⟨_, rfl⟩
  have hQ2 : GrowC gb i Bs B F w = Q w := by rw [← hQ]
  have FK : Hid (¬ (R.el.length = 0 ∧ R.l.length ≤ 2 * R.used) → ∀ w', Holds w' (bdA gb (Bs.set i R) * (slA R.g R.l * (elA R.eg R.el * F))) → Sm w w' → Q w (.returned (.tuple #[])) w') := by
    intro hc w' h s
    rw [← hQ2]
    refine ⟨0, rfl, ?_, s⟩
    unfold growB
    rw [hR, if_neg hc]
    exact h
  have FG : Hid (R.el.length = 0 ∧ R.l.length ≤ 2 * R.used → ∀ w' g, Holds w' (bdA gb (Bs.set i (growN g R)) * (slA g (List.replicate (max R.l.length (4 * R.count)) e0) * (elA (some R.g) R.l * F))) → Sm w w' → Q w (.returned (.tuple #[])) w') := by
    intro hc w' g h s
    rw [← hQ2]
    refine ⟨g, rfl, ?_, s⟩
    unfold growB
    rw [hR, if_pos hc]
    exact h
  rw [hQ2]
  clear hw hB hok hR hQ hQ2
  go_enter Try.func63, Try.ntmps63
  go_upto_block 0 with (fail)
  go_cut [] (fun wc => Hid (Bas R) ∧ Hid (Holds wc (bdA gb (Bs.set i R) * (slA R.g R.l * (elA R.eg R.el * F)))) ∧ Hid (Sm w wc))
  case first =>
    clear FK FG
    go_wp2_with fail
    go_loopw [3] (fun x wl => ∃ (c : Nat) (B1 : Bd), x = .int .i64 c ∧ c ≤ 4 ∧ Hid (OkM (4 - c) B1) ∧ Hid (mvF (4 - c) B1 = R) ∧ Hid (Holds wl (bdA gb (Bs.set i B1) * (slA B1.g B1.l * (elA B1.eg B1.el * F)))) ∧ Hid (Sm w wl)) (fun x _ => 4 - (intOf x).toNat)
    case atStart => exact ⟨0, B, rfl, by omega, HOK.out, HR.out, HW.out, Sm.refl _⟩
    case round =>
      clear HOK HR HW
      obtain ⟨c, B1, rfl, hc, HOK, HR, HH, HS⟩ := hrel
      by_cases hc4 : c < 4
      · obtain ⟨m, hm⟩ : ∃ m, 4 - c = m + 1 := ⟨3 - c, by omega⟩
        have hok := HOK.out
        rw [hm] at hok
        obtain ⟨bas, hst, hmv⟩ := hok
        have hR := HR.out
        rw [hm, mvF] at hR
        have t1 : decide ((c : Int) < 4) = true := decide_eq_true (by omega)
        have t1' : decide (c < 4) = true := decide_eq_true hc4
        have hi2 : i < (Bs.set i B1).length := by rw [List.length_set]; exact hi
        obtain ⟨c0, c1, c2, c3, c4, fz, lt⟩ := bd_f HH.out i hi2
        simp only [List.getElem_set_self] at c0 c1 c2 c3 c4
        unfold slV at c2
        by_cases hend : B1.moved = B1.el.length
        · rw [if_pos hend] at hR
          have RB : Hid (Bas R) := by rw [← hR]; exact hst hend
          have RH : Hid (∀ q, Holds (((wr.drewN q).setCell ⟨gb, i * 5 + 2, none⟩ (.slice none 0 0)).setCell ⟨gb, i * 5 + 3, none⟩ (.int .i64 0)) (bdA gb (Bs.set i R) * (slA R.g R.l * (elA R.eg R.el * F)))) := by
            intro q
            have h1 := bd_set (HH.out.drewN q) i 2 hi2 (by omega) (.slice none 0 0) { B1 with eg := none, el := [] } (by simp only [List.getElem_set_self]; rfl)
            have h2 := bd_set h1 i 3 (by rw [List.length_set]; exact hi2) (by omega) (.int .i64 0) (stopM B1) (by simp only [List.getElem_set_self]; rfl)
            rw [List.set_set, List.set_set] at h2
            rw [← hR]
            have h3 := (h2.eqv (by ac_rfl : _ = elA B1.eg B1.el * (bdA gb (Bs.set i (stopM B1)) * (slA B1.g B1.l * F)))).right
            exact (el_mk0 h3).eqv (by unfold stopM; ac_rfl)
          have e1 : ((B1.moved : Int) == (B1.el.length : Int)) = true := by simp [hend]
          have e1' : (B1.moved == B1.el.length) = true := by simp [hend]
          clear hR hst hmv HOK HR HH bas hend c0 c1 c4
          go_wp2_with fail
          go_quiet (fail)
          go_wp2_with fail
          go_meet
          case rel => exact ⟨RB.out, RH.out _, ((HS.out.drewN _).setCell _ _).setCell _ _⟩
        · rw [if_neg hend] at hR
          have hlt : B1.moved < B1.el.length := by have := bas.m; omega
          obtain ⟨hroom, hok2⟩ := hmv hlt
          have e1 : ((B1.moved : Int) == (B1.el.length : Int)) = false := beq_eq_false_iff_ne.2 (by omega)
          have e1' : (B1.moved == B1.el.length) = false := beq_eq_false_iff_ne.2 hend
          have hel := HH.out.eqv (by ac_rfl : _ = elA B1.eg B1.el * (bdA gb (Bs.set i B1) * (slA B1.g B1.l * F)))
          obtain ⟨eg, heg⟩ : ∃ eg, B1.eg = some eg := by
            cases h : B1.eg with
            | none =>
              rw [h] at hel
              have := (el_none hel).1
              rw [this] at hlt; simp at hlt
            | some g => exact ⟨g, rfl⟩
          rw [heg] at hel c2
          simp only [Option.map_some] at c2
          obtain ⟨hne, hE⟩ := el_some hel
          have HE := Lib.hid hE
          have hs := sl_f hE B1.moved hlt
          obtain ⟨s0, s1, s2, s3, sz, st⟩ := hs
          have hgd : B1.el.getD B1.moved e0 = B1.el[B1.moved] := by rw [List.getD_eq_getElem?_getD, List.getElem?_eq_getElem hlt, Option.getD_some]
          have hmvE : mv1 B1 = if (B1.el[B1.moved]).st = 1 then { layB B1 (B1.el[B1.moved]).t (B1.el[B1.moved]).k (B1.el[B1.moved]).v with el := B1.el.set B1.moved { B1.el[B1.moved] with st := 2 }, moved := B1.moved + 1 } else { B1 with moved := B1.moved + 1 } := by unfold mv1; rw [hgd]
          rw [hgd] at hroom
          have hkl := bas.k _ (List.getElem_mem hlt)
          have i0 : (0 : Int) ≤ (B1.moved : Int) := by omega
          have i1 : (B1.moved : Int) < (B1.el.length : Int) := by omega
          have a1 : IntKind.i64.wrap ((B1.moved : Int) + 1) = (B1.moved : Int) + 1 := IntWalk.i64_in _ (by have := bas.e1; omega)
          have LC : Hid (∀ (s : Sl) (_ : s.k.length ≤ 1000) (_ : prb B1.l s.t s.k pL ≠ none) (wq : World) (_ : Holds wq (bdA gb (Bs.set i B1) * (slA B1.g B1.l * (elA B1.eg B1.el * F)))), Calls Try.prog 64 #[.pointer (some ⟨gb, i * 5, none⟩), .agg #[.int .i64 s.t, .string (ks s.k)], .int .i64 s.v] wq (LayC gb i (Bs.set i B1) (layB B1 s.t s.k s.v) (elA B1.eg B1.el * F) wq)) := fun s hk hr wq hq => lay_calls gb i (Bs.set i B1) hi2 B1 (by simp) bas.l0 bas.l1 (by have := bas.u; omega) s.t s.k s.v hk hr _ wq hq
          obtain ⟨s, hs2⟩ : ∃ q, B1.el[B1.moved] = q := ⟨_, rfl⟩
          rw [hs2] at s0 s1 s2 s3 hmvE hroom hkl
          by_cases hst1 : s.st = 1
          · rw [if_pos hst1] at hmvE
            have LC1 := Lib.hid (LC.out s hkl (hroom hst1))
            rw [hst1] at s0
            obtain ⟨lg1, lg2, lg3, lg4, lg5⟩ := layB_g B1 s.t s.k s.v
            have HN : Hid (∀ wq, Holds wq (bdA gb ((Bs.set i B1).set i (layB B1 s.t s.k s.v)) * (slA (layB B1 s.t s.k s.v).g (layB B1 s.t s.k s.v).l * (elA B1.eg B1.el * F))) → Holds ((wq.setCell ⟨eg, B1.moved * 4, none⟩ (.int .i64 2)).setCell ⟨gb, i * 5 + 3, none⟩ (.int .i64 ((B1.moved : Int) + 1))) (bdA gb (Bs.set i (mv1 B1)) * (slA (mv1 B1).g (mv1 B1).l * (elA (mv1 B1).eg (mv1 B1).el * F)))) := by
              intro wq hq
              rw [hmvE]
              rw [List.set_set, heg] at hq
              obtain ⟨-, h1⟩ := el_some (hq.eqv (by ac_rfl : _ = elA (some eg) B1.el * (bdA gb (Bs.set i (layB B1 s.t s.k s.v)) * (slA (layB B1 s.t s.k s.v).g (layB B1 s.t s.k s.v).l * F))))
              have h2 := sl_set h1 B1.moved 0 hlt (by omega) (.int .i64 2) { s with st := 2 } (by rw [hs2]; rfl)
              have h3 := bd_set (h2.eqv (by ac_rfl : _ = bdA gb (Bs.set i (layB B1 s.t s.k s.v)) * (slA eg (B1.el.set B1.moved { s with st := 2 }) * (slA (layB B1 s.t s.k s.v).g (layB B1 s.t s.k s.v).l * F)))) i 3 (by rw [List.length_set]; exact hi) (by omega) (.int .i64 ((B1.moved : Int) + 1)) { layB B1 s.t s.k s.v with el := B1.el.set B1.moved { s with st := 2 }, moved := B1.moved + 1 } (by simp only [List.getElem_set_self]; unfold bE; simp [lg3])
              rw [List.set_set] at h3
              have h4 := el_mk (by intro h; have := congrArg List.length h; rw [List.length_set] at this; rw [this] at hlt; simp at hlt) (h3.eqv (by ac_rfl : _ = slA eg (B1.el.set B1.moved { s with st := 2 }) * (bdA gb (Bs.set i { layB B1 s.t s.k s.v with el := B1.el.set B1.moved { s with st := 2 }, moved := B1.moved + 1 }) * (slA (layB B1 s.t s.k s.v).g (layB B1 s.t s.k s.v).l * F))))
              exact h4.eqv (by simp only [lg2, heg]; ac_rfl)
            have HF2 : Hid (∀ wq, Holds wq (bdA gb ((Bs.set i B1).set i (layB B1 s.t s.k s.v)) * (slA (layB B1 s.t s.k s.v).g (layB B1 s.t s.k s.v).l * (elA B1.eg B1.el * F))) → (∀ o, wq.frozen? ⟨eg, o, none⟩ = false) ∧ eg < wq.heap.size ∧ (∀ o, wq.frozen? ⟨gb, o, none⟩ = false) ∧ gb < wq.heap.size ∧ wq.cell? ⟨gb, i * 5 + 3, none⟩ = some (.int .i64 B1.moved) ∧ wq.cell? ⟨eg, B1.moved * 4, none⟩ = some (.int .i64 s.st) ∧ gb ≠ eg) := by
              intro wq hq
              have f1 := bd_f hq i (by rw [List.length_set]; exact hi2)
              simp only [List.getElem_set_self] at f1
              rw [heg] at hq
              obtain ⟨-, h1⟩ := el_some (hq.eqv (by ac_rfl : _ = elA (some eg) B1.el * (bdA gb ((Bs.set i B1).set i (layB B1 s.t s.k s.v)) * (slA (layB B1 s.t s.k s.v).g (layB B1 s.t s.k s.v).l * F))))
              have f2 := sl_f h1 B1.moved hlt
              rw [hs2] at f2
              have f3 := f1.c3
              rw [lg4] at f3
              exact ⟨f2.fz, f2.lt, f1.fz, f1.lt, f3, f2.c0, fun h => h1.ne h.symm⟩
            have HR2 : Hid (mvF (4 - (c + 1)) (mv1 B1) = R) := by show _ = _; rw [show 4 - (c + 1) = m by omega]; exact hR
            have HOK2 : Hid (OkM (4 - (c + 1)) (mv1 B1)) := by show OkM _ _; rw [show 4 - (c + 1) = m by omega]; exact hok2
            have HH3 : Hid (∀ wq, Holds wq (bdA gb (Bs.set i B1) * (slA B1.g B1.l * (elA B1.eg B1.el * F))) → SlF wq eg B1.moved s ∧ (∀ o, wq.frozen? ⟨gb, o, none⟩ = false) ∧ gb < wq.heap.size) := by
              intro wq hq
              have f1 := bd_f hq i hi2
              rw [heg] at hq
              obtain ⟨-, h1⟩ := el_some (hq.eqv (by ac_rfl : _ = elA (some eg) B1.el * (bdA gb (Bs.set i B1) * (slA B1.g B1.l * F))))
              have f2 := sl_f h1 B1.moved hlt
              rw [hs2] at f2
              exact ⟨f2, f1.fz, f1.lt⟩
            clear hR hst hmv HOK HR bas hend c0 c1 c4 hel hne hE HE hgd hmvE hroom hkl LC hs2 hst1 hok2 s1 s2 s3 heg lg1 lg2 lg3 lg4 lg5
            go_wp2_with fail
            go_quiet (fail)
            rename Nat => nq0
            go_wp2_with fail
            go_quiet (fail)
            go_wp2_with fail
            obtain ⟨W1, hW1⟩ : ∃ q, wr.drewN (nq0 + nq) = q := ⟨_, rfl⟩
            have HW1 : Hid (Holds W1 (bdA gb (Bs.set i B1) * (slA B1.g B1.l * (elA B1.eg B1.el * F)))) := by rw [← hW1]; exact HH.out.drewN _
            have SW1 : Hid (Sm w W1) := by rw [← hW1]; exact HS.out.drewN _
            rw [hW1]
            obtain ⟨⟨s0, s1, s2, s3, sz, st⟩, gz, gt⟩ := HH3.out _ HW1.out
            have LC2 := Lib.hid (LC1.out W1.drew HW1.out.drew)
            clear hW1 LC1 HW1 HH HS HH3
            go_still_tail 9, (by kernel_rfl)
            go_wp2_with fail
            refine (LC2.out).mono ?_
            rintro e w2 ⟨rfl, h2, m2⟩
            have H2 := Lib.hid (HN.out _ h2)
            have S2 := Lib.hid (SW1.out.drew.trans m2)
            obtain ⟨y1, y2, y3, y4, y5, y6, y7⟩ := HF2.out _ h2
            clear h2 m2 LC2 HN HF2 SW1 s0 s1 s2 s3 sz st gz gt
            go_wp2_with fail
            go_roundw
            case rel => exact ⟨c + 1, mv1 B1, by go_num, by omega, HOK2.out, HR2.out, H2.out, (S2.out.setCell _ _).setCell _ _⟩
            case measure => simp [intOf]; omega
          · rw [if_neg hst1] at hmvE
            have t2 : ((s.st : Int) == 1) = false := beq_eq_false_iff_ne.2 (by omega)
            have t2' : (s.st == 1) = false := beq_eq_false_iff_ne.2 hst1
            have HN : Hid (∀ q, Holds ((wr.drewN q).setCell ⟨gb, i * 5 + 3, none⟩ (.int .i64 ((B1.moved : Int) + 1))) (bdA gb (Bs.set i (mv1 B1)) * (slA (mv1 B1).g (mv1 B1).l * (elA (mv1 B1).eg (mv1 B1).el * F)))) := by
              intro q
              rw [hmvE]
              have h1 := bd_set (HH.out.drewN q) i 3 hi2 (by omega) (.int .i64 ((B1.moved : Int) + 1)) { B1 with moved := B1.moved + 1 } (by simp only [List.getElem_set_self]; rfl)
              rw [List.set_set] at h1
              exact h1
            have HR2 : Hid (mvF (4 - (c + 1)) (mv1 B1) = R) := by show _ = _; rw [show 4 - (c + 1) = m by omega]; exact hR
            have HOK2 : Hid (OkM (4 - (c + 1)) (mv1 B1)) := by show OkM _ _; rw [show 4 - (c + 1) = m by omega]; exact hok2
            clear hR hst hmv HOK HR HH bas hend c0 c1 c4 hel hne hE HE hgd hmvE hroom hkl LC hs2 hst1 hok2 s1 s2 s3 heg
            go_wp2_with fail
            go_quiet (fail)
            go_wp2_with fail
            go_quiet (fail)
            go_wp2_with fail
            go_roundw
            case rel => exact ⟨c + 1, mv1 B1, by go_num, by omega, HOK2.out, HR2.out, HN.out _, (HS.out.drewN _).setCell _ _⟩
            case measure => simp [intOf]; omega
      · obtain rfl : c = 4 := by omega
        have hR := HR.out
        rw [Nat.sub_self, mvF] at hR
        have hok := HOK.out
        rw [Nat.sub_self] at hok
        subst hR
        have HB := Lib.hid (show Bas B1 from hok)
        clear hok hc4 hc
        go_wp2_with fail
        go_meet
        case rel => exact ⟨HB.out, HH.out, HS.out⟩
  case rest =>
    obtain ⟨RB, RH, RS⟩ := hcut
    clear HOK HR HW
    have bas := RB.out
    have hi2 : i < (Bs.set i R).length := by rw [List.length_set]; exact hi
    obtain ⟨c0, c1, c2, c3, c4, fz, lt⟩ := bd_f RH.out i hi2
    simp only [List.getElem_set_self] at c0 c1 c2 c3 c4
    unfold slV at c2
    have hel2 := RH.out.eqv (by ac_rfl : _ = elA R.eg R.el * (bdA gb (Bs.set i R) * (slA R.g R.l * F)))
    cases heg : R.eg with
    | some eg =>
      rw [heg] at hel2 c2
      obtain ⟨hne, -⟩ := el_some hel2
      simp only [Option.map_some] at c2
      have hlen : R.el.length ≠ 0 := fun h => hne (List.eq_nil_of_length_eq_zero h)
      have F2 := Lib.hid (FK.out (fun h => hlen h.1))
      have t1 : ((R.el.length : Int) == 0) = false := beq_eq_false_iff_ne.2 (by omega)
      have t1' : (R.el.length == 0) = false := beq_eq_false_iff_ne.2 hlen
      clear FK FG hel2 hne hlen bas
      go_wp2_with fail
      go_quiet (fail)
      go_wp2_with fail
      go_end0
      exact F2.out _ (RH.out.drewN _) (RS.out.drewN _)
    | none =>
      rw [heg] at hel2 c2
      obtain ⟨hnil, -⟩ := el_none hel2
      simp only [Option.map_none, hnil, List.length_nil] at c2
      have hlen : R.el.length = 0 := by rw [hnil]; rfl
      have a1 : IntKind.i64.wrap (2 * (R.used : Int)) = 2 * (R.used : Int) := IntWalk.i64_in _ (by have := bas.u; omega)
      by_cases hu : R.l.length ≤ 2 * R.used
      · have F2 := Lib.hid (FG.out ⟨hlen, hu⟩)
        have t1 : decide ((R.l.length : Int) ≤ 2 * (R.used : Int)) = true := decide_eq_true (by omega)
        have t2 : (R.l.length : Int) ≤ 2 * (R.used : Int) := by omega
        have a2' : IntKind.i64.wrap (4 * (R.count : Int)) = 4 * (R.count : Int) := IntWalk.i64_in _ (by have := bas.c; omega)
        have A2 := Lib.hid a2'
        clear a2'
        have hn9 : max R.l.length (4 * R.count) ≤ 1048576 := by have := bas.c; have := bas.l1; omega
        have hl0 := bas.l0
        obtain ⟨nn, hnn⟩ : ∃ q, max R.l.length (4 * R.count) = q := ⟨_, rfl⟩
        rw [hnn] at F2 hn9
        have MK := fun wq => make_sl nn hn9 wq
        have HNN : Hid (max R.l.length (4 * R.count) = nn) := hnn
        clear FK FG bas hnil hlen hel2 hu hnn
        go_wp2_with fail
        go_quiet (fail)
        go_wp2_with fail
        have h1 := bd_set (RH.out.drewN nq) i 2 hi2 (by omega) (.slice (some ⟨R.g, 0, none⟩) R.l.length R.l.length) { R with eg := some R.g, el := R.l } (by simp only [List.getElem_set_self]; rfl)
        have h2 := bd_set h1 i 3 (by rw [List.length_set]; exact hi2) (by omega) (.int .i64 0) { R with eg := some R.g, el := R.l, moved := 0 } (by simp only [List.getElem_set_self]; rfl)
        rw [List.set_set, List.set_set] at h2
        have S1 := Lib.hid (((RS.out.drewN nq).setCell ⟨gb, i * 5 + 2, none⟩ (.slice (some ⟨R.g, 0, none⟩) R.l.length R.l.length)).setCell ⟨gb, i * 5 + 3, none⟩ (.int .i64 0))
        obtain ⟨W1, hW1⟩ : ∃ q, ((wc.drewN nq).setCell ⟨gb, i * 5 + 2, none⟩ (.slice (some ⟨R.g, 0, none⟩) R.l.length R.l.length)).setCell ⟨gb, i * 5 + 3, none⟩ (.int .i64 0) = q := ⟨_, rfl⟩
        rw [hW1] at h2 S1 ⊢
        clear hW1 h1 c0 c1 c2 c3 c4 fz lt RH RS
        obtain ⟨c0, c1, c2, c3, c4, fz, lt⟩ := bd_f h2 i (by rw [List.length_set]; exact hi)
        simp only [List.getElem_set_self] at c0 c1 c2 c3 c4
        unfold slV at c2
        simp only [Option.map_some] at c2
        have HN : Hid (Holds (((W1.setCell ⟨gb, i * 5, none⟩ (.slice (some ⟨W1.heap.size, 0, none⟩) nn nn)).setCell ⟨gb, i * 5 + 1, none⟩ (.int .i64 0)).alloc (.cells (flat slE (List.replicate nn e0)) 142)).drew (bdA gb (Bs.set i (growN W1.heap.size R)) * (slA W1.heap.size (List.replicate nn e0) * (elA (some R.g) R.l * F)))) := by
          have h3 := bd_set h2 i 0 (by rw [List.length_set]; exact hi) (by omega) (.slice (some ⟨W1.heap.size, 0, none⟩) nn nn) { R with g := W1.heap.size, l := List.replicate nn e0, eg := some R.g, el := R.l, moved := 0 } (by simp only [List.getElem_set_self]; simp [bE, slV])
          have h4 := bd_set h3 i 1 (by rw [List.length_set, List.length_set]; exact hi) (by omega) (.int .i64 0) (growN W1.heap.size R) (by simp only [List.getElem_set_self]; unfold growN; rw [HNN.out]; rfl)
          rw [List.set_set, List.set_set] at h4
          have h5 := h4.alloc (.cells (flat slE (List.replicate nn e0)) 142)
          rw [show ((W1.setCell ⟨gb, i * 5 + 0, none⟩ (.slice (some ⟨W1.heap.size, 0, none⟩) nn nn)).setCell ⟨gb, i * 5 + 1, none⟩ (.int .i64 0)).heap.size = W1.heap.size by simp [World.setCell]] at h5
          have h6 := (h5.eqv (by unfold slA; ac_rfl : _ = elA R.eg R.el * (slA R.g R.l * (bdA gb (Bs.set i (growN W1.heap.size R)) * (slA W1.heap.size (List.replicate nn e0) * F))))).right
          have h7 := el_mk (l := R.l) (by intro h; rw [h] at hl0; simp at hl0) h6
          exact (h7.eqv (by ac_rfl)).drew
        have S2 : Hid (Sm w (((W1.setCell ⟨gb, i * 5, none⟩ (.slice (some ⟨W1.heap.size, 0, none⟩) nn nn)).setCell ⟨gb, i * 5 + 1, none⟩ (.int .i64 0)).alloc (.cells (flat slE (List.replicate nn e0)) 142)).drew) := (((S1.out.setCell _ _).setCell _ _).alloc _).drew
        clear h2 S1
        by_cases hm : 4 * R.count ≤ R.l.length
        · have e1 : R.l.length = nn := by rw [← HNN.out]; exact (Nat.max_eq_left hm).symm
          have x1 : ¬ (R.l.length : Int) < 4 * (R.count : Int) := by omega
          have x2 : 4 * (R.count : Int) ≤ (R.l.length : Int) := by omega
          have x3 : max (R.l.length : Int) (4 * (R.count : Int)) = (nn : Int) := by omega
          have a2 := A2.out
          rw [e1] at x1 x2 x3 c2
          clear c3 HNN hm e1
          go_region
          go_end0
          exact F2.out _ _ HN.out S2.out
        · have e1 : 4 * R.count = nn := by rw [← HNN.out]; exact (Nat.max_eq_right (by omega)).symm
          have a2 : IntKind.i64.wrap (4 * (R.count : Int)) = (nn : Int) := by rw [A2.out]; omega
          have x1 : (R.l.length : Int) < (nn : Int) := by omega
          have x2 : ¬ (nn : Int) ≤ (R.l.length : Int) := by omega
          have x2' : ¬ (nn : Int) < (R.l.length : Int) := by omega
          have x2'' : (R.l.length : Int) ≤ (nn : Int) := by omega
          have x3 : max (R.l.length : Int) (nn : Int) = (nn : Int) := by omega
          clear c3 HNN hm e1 A2
          go_region
          go_end0
          exact F2.out _ _ HN.out S2.out
      · have F2 := Lib.hid (FK.out (fun h => hu h.2))
        have t1 : decide ((R.l.length : Int) ≤ 2 * (R.used : Int)) = false := decide_eq_false (by omega)
        have t2 : ¬ (R.l.length : Int) ≤ 2 * (R.used : Int) := by omega
        clear FK FG bas hnil hlen hel2 hu
        go_wp2_with fail
        go_quiet (fail)
        go_wp2_with fail
        go_end0
        exact F2.out _ (RH.out.drewN _) (RS.out.drewN _)
#print axioms grow_calls
end Go.Proofs.Ytefcinifaaablaa.Stripe
