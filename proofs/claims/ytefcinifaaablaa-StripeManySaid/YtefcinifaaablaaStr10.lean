/-
  Layer 17: Len, Stripe, New.
-/
import Derived.Test.YtefcinifaaablaaStr9
namespace Go.Proofs.Ytefcinifaaablaa.Stripe
open Go.RowKit Go.Sep
set_option maxRecDepth 100000
set_option linter.unusedVariables false
set_option linter.unusedSimpArgs false

def cnt (Bs : List Bd) : Nat := (Bs.map Bd.count).sum
theorem cnt_take {Bs : List Bd} {i : Nat} (hi : i < Bs.length) : cnt (Bs.take (i + 1)) = cnt (Bs.take i) + Bs[i].count := by
  unfold cnt
  rw [List.take_succ_eq_append_getElem hi, List.map_append, List.sum_append]
  simp only [List.map_cons, List.map_nil, List.sum_cons, List.sum_nil, Nat.add_zero]
theorem cnt_le {Bs : List Bd} (h : ∀ B ∈ Bs, B.count ≤ 10000) (i : Nat) (hi : i ≤ Bs.length) : cnt (Bs.take i) ≤ i * 10000 := by
  induction i with
  | zero => simp [cnt]
  | succ i ih =>
    rw [cnt_take (by omega)]
    have := ih (by omega)
    have := h Bs[i] (List.getElem_mem _)
    omega
set_option maxHeartbeats 4000000 in
theorem len_calls (tb gb : Nat) (Bs : List Bd) (h0 : 0 < Bs.length) (h1 : Bs.length ≤ 64) (hc : ∀ B ∈ Bs, B.count ≤ 10000) (F : Asr) (w : World) (hw : Holds w (tabA tb gb Bs * F)) :
    Calls Try.prog 36 #[.pointer (some ⟨tb, 0, none⟩)] w fun e w' => e = .returned (.int .i64 (cnt Bs)) ∧ w' = w := by
  have NC := Lib.hid (none_calls tb gb Bs h0 F w hw)
  have c0 := tab_c hw
  have HB := Lib.hid (fun (i : Nat) (hi : i < Bs.length) => (bd_f (tab_at hw i hi) i hi).c4)
  have HLE := Lib.hid (cnt_le hc)
  have HTK := Lib.hid (fun i (hi : i < Bs.length) => cnt_take hi)
  obtain ⟨R, hR⟩ : ∃ q, cnt Bs = q := ⟨_, rfl⟩
  have HR : Hid (cnt (Bs.take Bs.length) = R) := by show _ = _; rw [List.take_length]; exact hR
  obtain ⟨n, hn⟩ : ∃ q, Bs.length = q := ⟨_, rfl⟩
  have HN := Lib.hid hn
  rw [hn] at c0 HLE HR h1
  rw [hR]
  clear hR hw hn hc h0
  go_enter Try.func36, Try.ntmps36
  go_wp2_with fail
  refine (NC.out).mono ?_
  rintro e w1 ⟨rfl, rfl⟩
  clear NC
  go_wp2_with fail
  go_loopw [3, 13] (fun x y wl => ∃ i : Nat, y = .int .i64 i ∧ x = .int .i64 (cnt (Bs.take i)) ∧ i ≤ n ∧ wl = w1) (fun _ y _ => n - (intOf y).toNat)
  case atStart => exact ⟨0, rfl, rfl, Nat.zero_le _, rfl⟩
  case round =>
    obtain ⟨i, rfl, rfl, hi, rfl⟩ := hrel
    by_cases hin : i < n
    · have c4 := HB.out i (by rw [HN.out]; exact hin)
      have tk := HTK.out i (by rw [HN.out]; exact hin)
      have le1 := HLE.out i (by omega)
      have le2 := HLE.out (i + 1) (by omega)
      obtain ⟨m, hm⟩ : ∃ q, cnt (Bs.take i) = q := ⟨_, rfl⟩
      obtain ⟨c, hcc⟩ : ∃ q, (Bs[i]'(by rw [HN.out]; exact hin)).count = q := ⟨_, rfl⟩
      rw [hm, hcc] at tk
      rw [hm] at le1 ⊢
      rw [hcc] at c4
      have a1 : IntKind.i64.wrap ((m : Int) + (c : Int)) = (m : Int) + (c : Int) := IntWalk.i64_in _ (by omega)
      have i0 : (0 : Int) ≤ (i : Int) := by omega
      have i1 : (i : Int) < (n : Int) := by omega
      have HT := Lib.hid tk
      clear tk hm hcc le1 le2
      go_wp2_with fail
      go_roundw
      case rel => exact ⟨i + 1, by go_num, by rw [HT.out]; go_num, by omega, by first | rfl | trivial⟩
      case measure => simp [intOf]; omega
    · obtain rfl : i = n := by omega
      rw [HR.out]
      go_wp2_with fail
      go_ret
      exact ⟨rfl, rfl⟩
#print axioms len_calls
def strB (Bs : List Bd) (k : Int) : Int := if k < 0 then 0 else ((Bs.map Bd.count).getD k.toNat 0 : Nat)
set_option maxHeartbeats 4000000 in
theorem stripe_calls (tb gb : Nat) (Bs : List Bd) (h0 : 0 < Bs.length) (k : Int) (F : Asr) (w : World) (hw : Holds w (tabA tb gb Bs * F)) :
    Calls Try.prog 35 #[.pointer (some ⟨tb, 0, none⟩), .int .i64 k] w fun e w' => e = .returned (.int .i64 (strB Bs k)) ∧ w' = w := by
  have NC := Lib.hid (none_calls tb gb Bs h0 F w hw)
  have c0 := tab_c hw
  by_cases hk0 : k < 0
  · have t1 : decide (k < 0) = true := decide_eq_true hk0
    have hr : strB Bs k = 0 := by unfold strB; rw [if_pos hk0]
    rw [hr]
    clear hk0 hr hw
    go_enter Try.func35, Try.ntmps35
    go_wp2_with fail
    refine (NC.out).mono ?_
    rintro e w1 ⟨rfl, rfl⟩
    go_wp2_with fail
    go_ret
    exact ⟨rfl, rfl⟩
  have t1 : decide (k < 0) = false := decide_eq_false hk0
  by_cases hkn : (Bs.length : Int) ≤ k
  · have t2 : decide ((Bs.length : Int) ≤ k) = true := decide_eq_true hkn
    have hr : strB Bs k = 0 := by
      unfold strB
      rw [if_neg hk0, List.getD_eq_getElem?_getD, List.getElem?_eq_none (by rw [List.length_map]; omega)]
      rfl
    rw [hr]
    clear hk0 hr hw hkn
    go_enter Try.func35, Try.ntmps35
    go_wp2_with fail
    refine (NC.out).mono ?_
    rintro e w1 ⟨rfl, rfl⟩
    go_wp2_with fail
    go_ret
    exact ⟨rfl, rfl⟩
  · have t2 : decide ((Bs.length : Int) ≤ k) = false := decide_eq_false hkn
    obtain ⟨i, rfl⟩ : ∃ i : Nat, k = i := ⟨k.toNat, by omega⟩
    have hi : i < Bs.length := by omega
    have c4 := (bd_f (tab_at hw i hi) i hi).c4
    have hr : strB Bs i = Bs[i].count := by
      unfold strB
      rw [if_neg hk0, List.getD_eq_getElem?_getD, Int.toNat_natCast, List.getElem?_map, List.getElem?_eq_getElem hi]
      rfl
    rw [hr]
    obtain ⟨c, hcc⟩ : ∃ q, Bs[i].count = q := ⟨_, rfl⟩
    rw [hcc] at c4 ⊢
    have i0 : (0 : Int) ≤ (i : Int) := by omega
    have i1 : (i : Int) < (Bs.length : Int) := by omega
    clear hk0 hr hw hkn hcc
    go_enter Try.func35, Try.ntmps35
    go_wp2_with fail
    refine (NC.out).mono ?_
    rintro e w1 ⟨rfl, rfl⟩
    go_wp2_with fail
    go_ret
    exact ⟨rfl, rfl⟩
#print axioms stripe_calls
def zB : List Value := [.slice none 0 0, .int .i64 0, .slice none 0 0, .int .i64 0, .int .i64 0]
def oE : Option Bd → List Value
  | none => zB
  | some B => bE B
theorem oE_len (x : Option Bd) : (oE x).length = 5 := by cases x <;> rfl
theorem made_flat {α : Type _} (enc : α → List Value) (a : α) (sz : Nat) (he : ∀ x, (enc x).length = sz) (hp : 0 < sz) (n : Nat) : madeCells (enc a).toArray (n * sz) = flat enc (List.replicate n a) := by
  apply Array.ext
  · rw [flat_size he]; simp [madeCells]
  · intro i h1 h2
    have h3 : i < n * sz := by simpa [madeCells] using h1
    have hq : i = i / sz * sz + i % sz := by have := Nat.div_add_mod i sz; rw [Nat.mul_comm] at this; omega
    have hm : i % sz < sz := Nat.mod_lt _ hp
    have h4 := flat_get he (l := List.replicate n a) (i / sz) (i % sz) (by rw [List.length_replicate]; exact (Nat.div_lt_iff_lt_mul hp).2 h3) hm
    rw [← hq, Array.getElem?_eq_getElem h2, List.getElem_replicate, List.getElem?_eq_getElem (by rw [he]; exact hm)] at h4
    rw [Option.some.inj h4]
    have h6 : (enc a).toArray[i % sz]! = (enc a)[i % sz]'(by rw [he]; exact hm) := by
      rw [getElem!_pos (enc a).toArray (i % sz) (by rw [List.size_toArray, he]; exact hm)]
      simp
    simp only [madeCells, List.size_toArray, he, Array.getElem_map, Array.getElem_range, h6]
theorem infoBd : (Try.prog.info? 136).map (fun i => (i.zero, i.size, i.bytes)) = some (some (.agg #[.slice none 0 0, .int .i64 0, .slice none 0 0, .int .i64 0, .int .i64 0]), 5, 72) := by kernel_rfl
theorem make_bd (n : Nat) (hn : n ≤ 1000) (w : World) : (Instr.makeSlice 131 (.int .i64 n) (.int .i64 n)).run Try.prog w = .ok (.slice (some ⟨w.heap.size, 0, none⟩) n n) (w.alloc (.cells (flat oE (List.replicate n none)) 136)) := by
  obtain ⟨i, hi, hz, hs, hb⟩ := info_parts (P := Try.prog) (e := 136) infoBd
  have h := run_make (P := Try.prog) w 131 136 i _ Try.underlying131 hi hz .i64 .i64 n n (by omega) (by omega) (by rw [hb]; omega) (by omega)
  rw [h]
  simp only [Int.toNat_natCast, hs, Value.cells]
  have := made_flat oE none 5 oE_len (by omega) n
  unfold oE zB at this
  rw [this]
  rfl
#print axioms make_bd
def newBd (g : Nat) : Bd := ⟨g, List.replicate 8 e0, 0, none, [], 0, 0⟩
def NewTC (n : Nat) (F : Asr) (w : World) (e : Ending) (w' : World) : Prop := ∃ tb gb gs, e = .returned (.tuple #[.pointer (some ⟨tb, 0, none⟩), .int .i64 0]) ∧ List.length gs = n ∧ Holds w' (tabA tb gb (gs.map newBd) * F) ∧ Sm w w'
theorem newT_bad (n : Int) (h : n < 1 ∨ 64 < n) (w : World) : Calls Try.prog 31 #[.int .i64 n] w fun e w' => e = .returned (.tuple #[.pointer none, .int .i64 2]) ∧ w' = w := by
  by_cases h1 : n < 1
  · have t1 : decide (n < 1) = true := decide_eq_true h1
    clear h h1
    go_enter Try.func31, Try.ntmps31
    go_wp2_with fail
    go_ret2
    exact ⟨rfl, rfl⟩
  · have t1 : decide (n < 1) = false := decide_eq_false h1
    have t2 : decide (64 < n) = true := decide_eq_true (by omega)
    clear h h1
    go_enter Try.func31, Try.ntmps31
    go_wp2_with fail
    go_ret2
    exact ⟨rfl, rfl⟩
#print axioms newT_bad
theorem ob_set (gs : List Nat) (m g : Nat) : ((gs.map fun g => some (newBd g)) ++ List.replicate (m + 1) none).set gs.length (some (newBd g)) = ((gs ++ [g]).map fun g => some (newBd g)) ++ List.replicate m none := by
  rw [List.set_append_right _ _ (by simp)]
  simp [List.replicate_succ]
theorem ob_get (gs : List Nat) (m : Nat) (h : gs.length < ((gs.map fun g => some (newBd g)) ++ List.replicate (m + 1) none).length) : ((gs.map fun g => some (newBd g)) ++ List.replicate (m + 1) (none : Option Bd))[gs.length] = none := by
  rw [List.getElem_append_right (by simp)]
  simp
theorem pur_emp {p : Prop} (hp : p) : pur p = emp := Asr.ext fun x => ⟨fun h => h.2, fun h => ⟨hp, h⟩⟩
theorem big_new : ∀ gs : List Nat, big (fun g => slA g (List.replicate 8 e0)) gs = big rowsA (gs.map newBd)
  | [] => rfl
  | g :: r => by
    rw [List.map_cons, big_cons, big_cons, big_new r]
    congr 1
    show _ = slA g (List.replicate 8 e0) * pur (([] : List Sl) = [])
    rw [pur_emp rfl, star_emp]
theorem flat_new (gs : List Nat) : flat oE (gs.map fun g => some (newBd g)) = flat bE (gs.map newBd) := by
  unfold flat
  simp [List.flatMap_map, oE]
set_option maxHeartbeats 8000000 in
theorem newT_calls (n : Nat) (h1 : 1 ≤ n) (h2 : n ≤ 64) (F : Asr) (w : World) (hw : Holds w F) : Calls Try.prog 31 #[.int .i64 n] w (NewTC n F w) := by
  have t1 : decide ((n : Int) < 1) = false := decide_eq_false (by omega)
  have t2 : decide (64 < (n : Int)) = false := decide_eq_false (by omega)
  have t2' : decide (64 < n) = false := decide_eq_false (by omega)
  have MK := fun wq => make_bd n (by omega) wq
  have MS : ∀ wq : World, (Instr.makeSlice 134 (.int .i64 8) (.int .i64 8)).run Try.prog wq = .ok (.slice (some ⟨wq.heap.size, 0, none⟩) 8 8) (wq.alloc (.cells (flat slE (List.replicate 8 e0)) 142)) := fun wq => make_sl 8 (by omega) wq
  have hA := (hw.alloc (.cells (flat oE (List.replicate n none)) 136)).alloc (.cells #[.slice (some ⟨w.heap.size, 0, none⟩) n n] 133)
  rw [World.size_alloc] at hA
  have HA := Lib.hid hA
  have SA : Hid (Sm w ((w.alloc (.cells (flat oE (List.replicate n none)) 136)).alloc (.cells #[.slice (some ⟨w.heap.size, 0, none⟩) n n] 133))) := ((Sm.refl w).alloc _).alloc _
  clear hw hA h1
  go_enter Try.func31, Try.ntmps31
  go_wp2_with fail
  go_loopw [21] (fun y wl => ∃ (i : Nat) (gs : List Nat), y = .int .i64 i ∧ i ≤ n ∧ gs.length = i ∧ Hid (Holds wl (pts (w.heap.size + 1) (.cells #[.slice (some ⟨w.heap.size, 0, none⟩) n n] 133 (0, 0)) * (pts w.heap.size (.cells (flat oE ((gs.map fun g => some (newBd g)) ++ List.replicate (n - i) none)) 136 (0, 0)) * (big (fun g => slA g (List.replicate 8 e0)) gs * F)))) ∧ Hid (Sm w wl)) (fun y _ => n - (intOf y).toNat)
  case atStart => exact ⟨0, [], rfl, Nat.zero_le _, rfl, HA.out.eqv (by rw [big_nil, emp_star, Nat.sub_zero]; rfl), SA.out⟩
  case round =>
    clear HA SA
    obtain ⟨i, gs, rfl, hi, hgs, HH, HS⟩ := hrel
    have c0 : wr.cell? ⟨w.heap.size + 1, 0, none⟩ = some (.slice (some ⟨w.heap.size, 0, none⟩) n n) := by rw [HH.out.cell]; rfl
    by_cases hin : i < n
    · obtain ⟨m, hm⟩ : ∃ m, n - i = m + 1 := ⟨n - i - 1, by omega⟩
      have hH := HH.out
      rw [hm] at hH
      have hlen : gs.length < ((gs.map fun g => some (newBd g)) ++ List.replicate (m + 1) (none : Option Bd)).length := by simp
      have hB := hH.eqv (star_left_comm _ _ _)
      have cc := hB.cell
      have e0' : (flat oE ((gs.map fun g => some (newBd g)) ++ List.replicate (m + 1) none))[gs.length * 5 + 0]? = (oE (((gs.map fun g => some (newBd g)) ++ List.replicate (m + 1) (none : Option Bd))[gs.length]))[0]? := flat_get oE_len gs.length 0 hlen (by omega)
      rw [ob_get] at e0'
      have c1 : wr.cell? ⟨w.heap.size, i * 5, none⟩ = some (.slice none 0 0) := by rw [cc, ← hgs, show gs.length * 5 = gs.length * 5 + 0 from rfl, e0']; rfl
      have fz := hB.frozen
      have lt := hB.lt
      have lt0 := hH.lt
      have st := hB.store (i * 5) (.slice (some ⟨wr.heap.size, 0, none⟩) 8 8)
      rw [← hgs, show gs.length * 5 = gs.length * 5 + 0 from rfl, flat_set oE_len gs.length 0 hlen (by omega) (.slice (some ⟨wr.heap.size, 0, none⟩) 8 8) (some (newBd wr.heap.size)) (by rw [ob_get]; rfl), ob_set] at st
      have st2 := st.alloc (.cells (flat slE (List.replicate 8 e0)) 142)
      rw [show (wr.setCell ⟨w.heap.size, gs.length * 5 + 0, none⟩ (.slice (some ⟨wr.heap.size, 0, none⟩) 8 8)).heap.size = wr.heap.size by simp [World.setCell]] at st2
      have HN : Hid (Holds ((wr.setCell ⟨w.heap.size, i * 5, none⟩ (.slice (some ⟨wr.heap.size, 0, none⟩) 8 8)).alloc (.cells (flat slE (List.replicate 8 e0)) 142)).drew (pts (w.heap.size + 1) (.cells #[.slice (some ⟨w.heap.size, 0, none⟩) n n] 133 (0, 0)) * (pts w.heap.size (.cells (flat oE (((gs ++ [wr.heap.size]).map fun g => some (newBd g)) ++ List.replicate (n - (i + 1)) none)) 136 (0, 0)) * (big (fun g => slA g (List.replicate 8 e0)) (gs ++ [wr.heap.size]) * F)))) := by
        show Holds _ _
        rw [big_append, big_cons, big_nil, star_emp, ← hgs, show n - (gs.length + 1) = m by omega]
        exact (st2.eqv (by unfold slA; ac_rfl)).drew
      have SN : Hid (Sm w ((wr.setCell ⟨w.heap.size, i * 5, none⟩ (.slice (some ⟨wr.heap.size, 0, none⟩) 8 8)).alloc (.cells (flat slE (List.replicate 8 e0)) 142)).drew) := ((HS.out.setCell _ _).alloc _).drew
      have i0 : (0 : Int) ≤ (i : Int) := by omega
      have i1 : (i : Int) < (n : Int) := by omega
      have hg2 : Hid ((gs ++ [wr.heap.size]).length = i + 1) := by show _ = _; rw [List.length_append, hgs]; rfl
      clear hH hB cc e0' st st2 HH HS hm hlen MK hgs
      go_wp2_with fail
      go_region
      go_wp2_with fail
      go_roundw
      case rel => exact ⟨i + 1, gs ++ [wr.heap.size], by go_num, by omega, hg2.out, HN.out, SN.out⟩
      case measure => simp [intOf]; omega
    · obtain rfl : i = n := by omega
      have hH := HH.out
      rw [Nat.sub_self, List.replicate_zero, List.append_nil] at hH
      have HT : Hid (Holds wr (tabA (w.heap.size + 1) w.heap.size (gs.map newBd) * F)) := by
        show Holds _ _
        unfold tabA bdA
        rw [List.length_map, hgs]
        refine hH.eqv ?_
        rw [flat_new, big_new]
        ac_rfl
      have HG := Lib.hid hgs
      clear hH HH MK MS
      go_wp2_with fail
      go_ret2
      exact ⟨w.heap.size + 1, w.heap.size, gs, rfl, HG.out, HT.out, HS.out⟩
#print axioms newT_calls
end Go.Proofs.Ytefcinifaaablaa.Stripe
