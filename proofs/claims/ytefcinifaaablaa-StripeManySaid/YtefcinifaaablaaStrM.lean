/-
  StripeMany: the plain part; the law's keys.
-/
import Derived.Test.YtefcinifaaablaaLawStripeTenants
namespace Go.Proofs.Ytefcinifaaablaa.Stripe
open Go.RowKit Go.Sep
set_option maxRecDepth 100000
set_option linter.unusedVariables false
set_option linter.unusedSimpArgs false

def kM (i : Nat) : List UInt8 := [UInt8.ofNat (97 + i % 3), UInt8.ofNat (i / 256), UInt8.ofNat (i % 256)]
theorem kM_len (i : Nat) : (kM i).length = 3 := rfl
theorem kM_inj {i j : Nat} (hi : i < 512) (hj : j < 512) (h : kM i = kM j) : i = j := by
  unfold kM at h
  simp only [List.cons.injEq, and_true] at h
  obtain ⟨-, h2, h3⟩ := h
  have e2 := congrArg UInt8.toNat h2
  have e3 := congrArg UInt8.toNat h3
  rw [UInt8.toNat_ofNat', UInt8.toNat_ofNat'] at e2 e3
  omega
def enM (j : Nat) : En := (1, kM j, (j : Int))
def DL (n step d : Nat) : List En := ((List.range n).filter fun j => !(decide (j % step = 0) && decide (j < d))).map enM
def LA (i : Nat) : List En := (List.range i).map enM
theorem DL_zero (n step : Nat) : DL n step 0 = LA n := by
  unfold DL LA
  congr 1
  rw [List.filter_eq_self]
  intro j _
  simp
theorem mem_DL {n step d j : Nat} (hn : n ≤ 511) (hj : j < n) {v : Int} : (1, kM j, v) ∈ DL n step d ↔ v = j ∧ ¬ (j % step = 0 ∧ j < d) := by
  unfold DL
  rw [List.mem_map]
  constructor
  · rintro ⟨a, ha, e⟩
    rw [List.mem_filter, List.mem_range] at ha
    simp only [enM, Prod.mk.injEq, true_and] at e
    have : a = j := kM_inj (by omega) (by omega) e.1
    subst this
    refine ⟨e.2.symm, ?_⟩
    have h2 := ha.2
    simp only [Bool.not_eq_eq_eq_not, Bool.not_true, Bool.and_eq_false_iff, decide_eq_false_iff_not] at h2
    omega
  · rintro ⟨rfl, h⟩
    refine ⟨j, ?_, rfl⟩
    rw [List.mem_filter, List.mem_range]
    refine ⟨hj, ?_⟩
    simp only [Bool.not_eq_eq_eq_not, Bool.not_true, Bool.and_eq_false_iff, decide_eq_false_iff_not]
    omega
theorem LA_put (i nb : Nat) (hi : i < 511) : putL (LA i) nb 1 (kM i) i = ((0, false, 0), LA (i + 1)) := by
  rw [putL_new (by omega) (by simp [kM]) (by simp [LA]; omega) ?_]
  · simp [LA, List.range_succ, enM]
  · intro v hv
    unfold LA at hv
    obtain ⟨j, hj, e⟩ := List.mem_map.1 hv
    rw [List.mem_range] at hj
    simp only [enM, Prod.mk.injEq, true_and] at e
    have := kM_inj (by omega) (by omega) e.1
    omega
theorem step_eq {i j step : Nat} (h1 : 1 ≤ step) (h8 : step ≤ 8) (hi : i % step = 0) (hj : j % step = 0) (h : i ≤ j) (h2 : j < i + step) : j = i := by
  have : step = 1 ∨ step = 2 ∨ step = 3 ∨ step = 4 ∨ step = 5 ∨ step = 6 ∨ step = 7 ∨ step = 8 := by omega
  rcases this with rfl | rfl | rfl | rfl | rfl | rfl | rfl | rfl <;> omega
theorem DL_del {n step i : Nat} (hn : n ≤ 511) (hi : i < n) (h1 : 1 ≤ step) (h8 : step ≤ 8) (hs : i % step = 0) : delL (DL n step i) 1 (kM i) = DL n step (i + step) := by
  unfold delL DL
  rw [List.filter_map, List.filter_filter]
  congr 1
  apply List.filter_congr
  intro j hj
  rw [List.mem_range] at hj
  simp only [Function.comp, enM, true_and]
  by_cases h : j % step = 0 ∧ j < i + step
  · by_cases hlt : j < i
    · simp [h.1, hlt, h.2]
    · have := step_eq h1 h8 hs h.1 (by omega) h.2
      subst this
      simp [h.1, h.2]
  · have h3 : ¬ (j % step = 0 ∧ j < i) := by omega
    have h4 : kM j ≠ kM i := fun e => by
      have := kM_inj (by omega) (by omega) e
      subst this
      omega
    have e1 : (decide (j % step = 0) && decide (j < i)) = false := by
      rw [← Bool.decide_and]; exact decide_eq_false h3
    have e2 : (decide (j % step = 0) && decide (j < i + step)) = false := by
      rw [← Bool.decide_and]; exact decide_eq_false h
    rw [e1, e2, decide_eq_false h4]
    rfl
theorem del_len {L : List En} (hn : (L.map nmE).Nodup) {t : Int} {k : List UInt8} {v : Int} (h : (t, k, v) ∈ L) : (delL L t k).length + 1 = L.length := by
  obtain ⟨A, C, rfl⟩ := List.append_of_mem h
  have hp : (A ++ (t, k, v) :: C).Perm ((t, k, v) :: (A ++ C)) := List.perm_middle
  have := del_perm hn hp
  rw [this.length_eq, hp.length_eq]
  simp
theorem DL_delR {n step i : Nat} (hn : n ≤ 511) (hi : i < n) (h1 : 1 ≤ step) (h8 : step ≤ 8) (hs : i % step = 0) (hd : ((DL n step i).map nmE).Nodup) : delR (DL n step i) 1 (kM i) = (((i : Int), true), DL n step (i + step)) ∧ (DL n step (i + step)).length + 1 = (DL n step i).length := by
  have hm : ((1 : Int), kM i, (i : Int)) ∈ DL n step i := (mem_DL hn hi).2 ⟨rfl, by omega⟩
  constructor
  · unfold delR
    rw [fnd_some hd hm]
    simp only
    rw [DL_del hn hi h1 h8 hs]
  · rw [← DL_del hn hi h1 h8 hs]
    exact del_len hd hm
theorem DL_one {n step d : Nat} : ∀ e ∈ DL n step d, e.1 = 1 ∧ ∃ j, e.2.1 = kM j := by
  intro e he
  unfold DL at he
  obtain ⟨j, -, rfl⟩ := List.mem_map.1 he
  exact ⟨rfl, j, rfl⟩
theorem DL_len (n step d : Nat) : (DL n step d).length ≤ n := by
  unfold DL
  rw [List.length_map]
  exact Nat.le_trans (List.length_filter_le _ _) (by simp)
theorem sum_ind (a : Nat) : ∀ n, ((List.range n).map fun k => if a = k then 1 else 0).sum = if a < n then 1 else 0
  | 0 => by simp
  | n + 1 => by
    rw [List.range_succ, List.map_append, List.sum_append, sum_ind a n]
    simp only [List.map_cons, List.map_nil, List.sum_cons, List.sum_nil]
    by_cases h1 : a < n
    · rw [if_pos h1, if_neg (by omega), if_pos (by omega)]; rfl
    · by_cases h2 : a = n
      · rw [if_neg h1, if_pos h2, if_pos (by omega)]; rfl
      · rw [if_neg h1, if_neg h2, if_neg (by omega)]; rfl
def sumS (L : List En) (nb k : Nat) : Nat := ((List.range k).map (stL L nb)).sum
theorem sumS_succ (L : List En) (nb k : Nat) : sumS L nb (k + 1) = sumS L nb k + stL L nb k := by
  unfold sumS
  rw [List.range_succ, List.map_append, List.sum_append]
  simp
theorem sum_add (f g : Nat → Nat) : ∀ l : List Nat, (l.map fun k => f k + g k).sum = (l.map f).sum + (l.map g).sum
  | [] => rfl
  | a :: l => by
    simp only [List.map_cons, List.sum_cons, sum_add f g l]
    omega
theorem sum_zero : ∀ l : List Nat, (l.map fun _ => 0).sum = 0
  | [] => rfl
  | a :: l => by simp only [List.map_cons, List.sum_cons, sum_zero l]
theorem sumS_all (nb : Nat) (h : 0 < nb) : ∀ L : List En, sumS L nb nb = L.length
  | [] => by
    unfold sumS stL
    simp only [List.countP_nil, List.length_nil]
    exact sum_zero _
  | e :: L => by
    have ih := sumS_all nb h L
    unfold sumS at ih ⊢
    have e1 : (stL (e :: L) nb) = fun k => stL L nb k + if hN e.1 e.2.1 % nb = k then 1 else 0 := by
      funext k
      unfold stL
      rw [List.countP_cons]
      simp
    rw [e1, sum_add, ih, sum_ind, if_pos (Nat.mod_lt _ h)]
    rfl
theorem sumS_le (L : List En) (nb : Nat) (h : 0 < nb) (k : Nat) (hk : k ≤ nb) : sumS L nb k ≤ L.length := by
  have : ∀ m, k ≤ m → sumS L nb k ≤ sumS L nb m := by
    intro m hm
    induction m with
    | zero => rw [Nat.le_zero.1 hm]; exact Nat.le_refl _
    | succ m ih =>
      by_cases e : k = m + 1
      · rw [e]; exact Nat.le_refl _
      · rw [sumS_succ]; exact Nat.le_trans (ih (by omega)) (Nat.le_add_right _ _)
  rw [← sumS_all nb h L]
  exact this nb hk
theorem scan_len0 (L : List En) (t : Int) (p : List UInt8) : (scanE L t p).length = L.countP (okE t p) := by
  unfold scanE
  rw [List.length_map, List.countP_eq_length_filter]
theorem cnt_abc : ∀ {L : List En}, (∀ e ∈ L, e.1 = 1 ∧ ∃ j, e.2.1 = kM j) → L.countP (okE 1 [97]) + L.countP (okE 1 [98]) + L.countP (okE 1 [99]) = L.length
  | [], _ => rfl
  | e :: L, h => by
    have ih := cnt_abc (L := L) fun e he => h e (List.mem_cons_of_mem _ he)
    obtain ⟨h1, j, hj⟩ := h e (List.mem_cons_self ..)
    have hb : ∀ c : UInt8, okE 1 [c] e = (c == UInt8.ofNat (97 + j % 3)) := by
      intro c
      unfold okE
      rw [h1, hj]
      simp [kM, List.isPrefixOf]
    rw [List.countP_cons, List.countP_cons, List.countP_cons, List.length_cons, hb, hb, hb]
    have : j % 3 = 0 ∨ j % 3 = 1 ∨ j % 3 = 2 := by omega
    rcases this with h3 | h3 | h3 <;> rw [h3]
    · rw [if_pos (by decide), if_neg (by decide), if_neg (by decide)]; omega
    · rw [if_neg (by decide), if_pos (by decide), if_neg (by decide)]; omega
    · rw [if_neg (by decide), if_neg (by decide), if_pos (by decide)]; omega
theorem cnt_all {L : List En} (h : ∀ e ∈ L, e.1 = 1 ∧ ∃ j, e.2.1 = kM j) : L.countP (okE 1 []) = L.length := by
  rw [List.countP_eq_length]
  intro e he
  rw [okE_nil]
  exact decide_eq_true (h e he).1
theorem cnt_zero {L : List En} (h : ∀ e ∈ L, e.1 = 1 ∧ ∃ j, e.2.1 = kM j) : L.countP (okE 0 []) = 0 := by
  rw [List.countP_eq_zero]
  intro e he hd
  rw [okE_nil] at hd
  have := of_decide_eq_true hd
  have := (h e he).1
  omega
theorem get_DL {n step i d : Nat} (hn : n ≤ 511) (hi : i < n) (hd : n ≤ d) (hnd : ((DL n step d).map nmE).Nodup) : getL (DL n step d) 1 (kM i) = if i % step = 0 then (0, false) else ((i : Int), true) := by
  by_cases h : i % step = 0
  · rw [if_pos h, getL_not]
    intro v hv
    have := (mem_DL hn hi).1 hv
    omega
  · rw [if_neg h, getL_mem hnd ((mem_DL hn hi).2 ⟨rfl, by omega⟩)]
theorem put16 (L : List En) (nb : Nat) (k : List UInt8) (v : Int) : putL L nb 16 k v = ((0, false, 2), L) := by
  unfold putL
  rw [if_pos (by omega)]
theorem keyM_calls (i : Nat) (hi : i < 512) (w : World) : Calls Try.prog 32 #[.int .i64 i] w fun e w' => e = .returned (.string (ks (kM i))) ∧ Below w.heap.size w w' := by
  have c1 : Int.tmod (i : Int) 3 = ((i % 3 : Nat) : Int) := rfl
  have c1' : (i : Int) % 3 = ((i % 3 : Nat) : Int) := rfl
  have c2 : Int.tdiv (i : Int) 256 = ((i / 256 : Nat) : Int) := rfl
  have c2' : (i : Int) / 256 = ((i / 256 : Nat) : Int) := rfl
  have c3 : (i : Int) % 256 = ((i % 256 : Nat) : Int) := rfl
  obtain ⟨r, hr⟩ : ∃ q, i % 3 = q := ⟨_, rfl⟩
  obtain ⟨a, ha⟩ : ∃ q, 97 + r = q := ⟨_, rfl⟩
  obtain ⟨b, hb⟩ : ∃ q, i / 256 = q := ⟨_, rfl⟩
  obtain ⟨c, hc⟩ : ∃ q, i % 256 = q := ⟨_, rfl⟩
  have r3 : r < 3 := by omega
  rw [hr] at c1 c1'
  rw [hb] at c2 c2'
  rw [hc] at c3
  have d1 : IntKind.i64.wrap (97 + (r : Int)) = (a : Int) := by rw [IntWalk.i64_in _ (by omega)]; omega
  have d2 : IntKind.u8.wrap (a : Int) = (a : Int) := IntWalk.u8_in _ (by omega)
  have d2' : (a : Int) % 256 = (a : Int) := by omega
  have d3 : IntKind.u8.wrap (b : Int) = (b : Int) := IntWalk.u8_in _ (by omega)
  have d3' : (b : Int) % 256 = (b : Int) := by omega
  have d4 : IntKind.u8.wrap (i : Int) = (c : Int) := by rw [IntKind.wrap_u8]; omega
  have d5 : IntKind.i64.wrap (r : Int) = (r : Int) := IntWalk.i64_in _ (by omega)
  have d6 : IntKind.i64.wrap (b : Int) = (b : Int) := IntWalk.i64_in _ (by omega)
  have CV : (convert 30 9 (.slice (some ⟨w.heap.size, 0, none⟩) 3 3)).run Try.prog (w.alloc (.cells #[.int .u8 (a : Int), .int .u8 (b : Int), .int .u8 (c : Int)] 5)) = .ok (.string (ks (kM i))) (w.alloc (.cells #[.int .u8 (a : Int), .int .u8 (b : Int), .int .u8 (c : Int)] 5)) := by
    have h := run_convert_bytes_back (P := Try.prog) (w.alloc (.cells #[.int .u8 (a : Int), .int .u8 (b : Int), .int .u8 (c : Int)] 5)) 30 9 5 ⟨w.heap.size, 0, none⟩ 3 (kM i) Try.underlying30 Try.underlying5 Try.underlying9 (fun j hj => by
      rw [Addr.add_lit, Nat.zero_add, World.cell?_alloc_new]
      have e1 : ((UInt8.ofNat (97 + i % 3)).toNat : Int) = a := by rw [UInt8.toNat_ofNat']; omega
      have e2 : ((UInt8.ofNat (i / 256)).toNat : Int) = b := by rw [UInt8.toNat_ofNat']; omega
      have e3 : ((UInt8.ofNat (i % 256)).toNat : Int) = c := by rw [UInt8.toNat_ofNat']; omega
      have hj3 : j = 0 ∨ j = 1 ∨ j = 2 := by rw [kM_len] at hj; omega
      rcases hj3 with rfl | rfl | rfl
      · show some (Value.int .u8 (a : Int)) = some (.int .u8 ((UInt8.ofNat (97 + i % 3)).toNat : Int)); rw [e1]
      · show some (Value.int .u8 (b : Int)) = some (.int .u8 ((UInt8.ofNat (i / 256)).toNat : Int)); rw [e2]
      · show some (Value.int .u8 (c : Int)) = some (.int .u8 ((UInt8.ofNat (i % 256)).toNat : Int)); rw [e3])
    exact h
  obtain ⟨N, hN⟩ : ∃ q, ks (kM i) = q := ⟨_, rfl⟩
  rw [hN] at CV ⊢
  have FIN : Hid (Below w.heap.size w (w.alloc (.cells #[.int .u8 (a : Int), .int .u8 (b : Int), .int .u8 (c : Int)] 5))) := (Below.refl _ w).alloc (Nat.le_refl _) _
  clear hr ha hb hc hN hi r3
  go_enter Try.func32, Try.ntmps32
  go_wp2_with fail
  go_ret
  exact ⟨rfl, FIN.out⟩
#print axioms keyM_calls
#print axioms DL_delR
#print axioms sumS_all
#print axioms cnt_abc
#print axioms get_DL
end Go.Proofs.Ytefcinifaaablaa.Stripe
