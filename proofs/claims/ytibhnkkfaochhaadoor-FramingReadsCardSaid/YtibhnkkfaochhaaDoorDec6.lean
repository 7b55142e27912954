/-
  Layer 4: Cut at a colon, Parse.
-/
import Derived.Test.YtibhnkkfaochhaaDoorDec5
import Derived.Test.YtibhnkkfaochhaaDoorRTok1
namespace Go.Proofs.YtibhnkkfaochhaaDoor.Dec
open Go.RowKit Go.Sep
open Go.Proofs.YtibhnkkfaochhaaDoor.Tok
set_option maxRecDepth 100000
set_option linter.unusedVariables false
set_option linter.unusedSimpArgs false

def colI (l : List UInt8) : Int := if colK l < l.length then (colK l : Int) else -1
theorem index_calls (s : ByteArray) (w : World) : Calls Tryd.prog 75 #[.string s, .string ⟨#[58]⟩] w fun e w' => e = .returned (.int .i64 (colI (bl s))) ∧ Below w.heap.size w w' := by
  have IB : Hid (∀ wq : World, Calls Tryd.prog 46 #[.string s, .int .u8 58] wq fun e w' => e = .returned (.int .i64 (colI (bl s))) ∧ Below wq.heap.size wq w') := by
    intro wq
    refine (Go.Proofs.Any.stringslite_IndexByte { Tryd.lays137 with } s 58 wq).mono ?_
    rintro e w' ⟨rfl, hw⟩
    refine ⟨?_, by subst hw; exact Below.refl _ _⟩
    have : Go.Lib.indexByte s.data.toList (Int.toNat 58).toUInt8 = colI (bl s) := idxByte (bl s)
    rw [this]
  by_cases hs : bl s = [58]
  · have hc : colI (bl s) = 0 := by rw [hs]; rfl
    have e1 : ([58] == s.toList) = true := by
      rw [Go.Lib.toList_data]
      show ([58] == bl s) = true
      rw [hs]; rfl
    rw [hc]
    clear IB hs
    go_enter Tryd.func75, Tryd.ntmps75
    go_wp2_with fail
    go_ret
    exact ⟨rfl, Below.refl _ _⟩
  · have e1 : ([58] == s.toList) = false := by
      rw [Go.Lib.toList_data]
      exact beq_eq_false_iff_ne.2 fun h => hs h.symm
    obtain ⟨z, hz⟩ : ∃ z, colI (bl s) = z := ⟨_, rfl⟩
    rw [hz] at IB ⊢
    clear hs hz
    go_enter Tryd.func75, Tryd.ntmps75
    go_wp2_with fail
    refine (IB.out _).mono ?_
    rintro e w1 ⟨rfl, b1⟩
    go_wp2_with fail
    go_ret
    exact ⟨rfl, b1⟩
#print axioms index_calls
def cutV (s : ByteArray) : Value := if colK (bl s) < (bl s).length then .tuple #[.string (sb ((bl s).take (colK (bl s)))), .string (sb ((bl s).drop (colK (bl s) + 1))), .bool true] else .tuple #[.string s, .string ⟨#[]⟩, .bool false]
theorem ext_take (s : ByteArray) (k : Nat) (h : k ≤ s.size) : s.extract 0 k = sb ((bl s).take k) := by
  apply bl_inj
  rw [bl_ext', bl_sb, List.drop_zero, Nat.sub_zero]
theorem ext_drop (s : ByteArray) (k : Nat) : s.extract k s.size = sb ((bl s).drop k) := by
  apply bl_inj
  rw [bl_ext', bl_sb, List.take_of_length_le]
  rw [List.length_drop, bl_len]
  exact Nat.le_refl _
theorem scut_calls (s : ByteArray) (hs : s.size ≤ 1048576) (w : World) : Calls Tryd.prog 50 #[.string s, .string ⟨#[58]⟩] w fun e w' => e = .returned (cutV s) ∧ Below w.heap.size w w' := by
  have IC := Lib.hid (fun wq => index_calls s wq)
  by_cases hk : colK (bl s) < (bl s).length
  · have hc : colI (bl s) = (colK (bl s) : Int) := by unfold colI; rw [if_pos hk]
    have hv : cutV s = .tuple #[.string (sb ((bl s).take (colK (bl s)))), .string (sb ((bl s).drop (colK (bl s) + 1))), .bool true] := by unfold cutV; rw [if_pos hk]
    rw [hv]
    rw [hc] at IC
    rw [bl_len] at hk
    have x1 := ext_take s (colK (bl s)) (by omega)
    have x2 := ext_drop s (colK (bl s) + 1)
    obtain ⟨k, hkk⟩ : ∃ k, colK (bl s) = k := ⟨_, rfl⟩
    rw [hkk] at IC x1 x2 hk ⊢
    obtain ⟨A, hA⟩ : ∃ q, sb ((bl s).take k) = q := ⟨_, rfl⟩
    obtain ⟨B, hB⟩ : ∃ q, sb ((bl s).drop (k + 1)) = q := ⟨_, rfl⟩
    rw [hA] at x1 ⊢
    rw [hB] at x2 ⊢
    have s1 : IntKind.i64.wrap ((k : Int) + 1) = (k : Int) + 1 := IntWalk.i64_in _ (by omega)
    have g0 : decide ((0 : Int) ≤ (k : Int)) = true := decide_eq_true (by omega)
    have g1 : (0 : Int) ≤ (k : Int) := by omega
    have g2 : (k : Int) ≤ (s.size : Int) := by omega
    have g3 : (k : Int) + 1 ≤ (s.size : Int) := by omega
    have g4 : k ≤ s.size := by omega
    have g5 : k + 1 ≤ s.size := by omega
    have g6 : (0 : Int) ≤ (k : Int) + 1 := by omega
    clear hv hc hkk hA hB
    go_enter Tryd.func50, Tryd.ntmps50
    go_wp2_with fail
    refine (IC.out _).mono ?_
    rintro e w1 ⟨rfl, b1⟩
    have B1 := Lib.hid b1
    clear b1 IC
    go_wp2_with fail
    go_quiet (fail)
    go_wp2_with fail
    go_ret3
    exact ⟨rfl, below_drewN B1.out _⟩
  · have hc : colI (bl s) = -1 := by unfold colI; rw [if_neg hk]
    have hv : cutV s = .tuple #[.string s, .string ⟨#[]⟩, .bool false] := by unfold cutV; rw [if_neg hk]
    rw [hv]
    rw [hc] at IC
    clear hv hc hk
    go_enter Tryd.func50, Tryd.ntmps50
    go_wp2_with fail
    refine (IC.out _).mono ?_
    rintro e w1 ⟨rfl, b1⟩
    have B1 := Lib.hid b1
    clear b1 IC
    go_wp2_with fail
    go_ret3
    exact ⟨rfl, B1.out⟩
#print axioms scut_calls
theorem cut_calls (s : ByteArray) (hs : s.size ≤ 1048576) (w : World) : Calls Tryd.prog 35 #[.string s, .string ⟨#[58]⟩] w fun e w' => e = .returned (cutV s) ∧ Below w.heap.size w w' := by
  have IC := Lib.hid (fun wq => scut_calls s hs wq)
  obtain ⟨a, b, c, hv⟩ : ∃ a b c, cutV s = .tuple #[.string a, .string b, .bool c] := by unfold cutV; split <;> exact ⟨_, _, _, rfl⟩
  rw [hv] at IC ⊢
  clear hv
  go_enter Tryd.func35, Tryd.ntmps35
  go_wp2_with fail
  refine (IC.out _).mono ?_
  rintro e w1 ⟨rfl, b1⟩
  go_wp2_with fail
  go_ret3
  exact ⟨rfl, b1⟩
#print axioms cut_calls
theorem fine_calls (n v : ByteArray) (hn : n.size ≤ 1048576) (hv : v.size ≤ 1048576) (ht : trimL (bl v) = bl v) (w : World) : Calls Tryd.prog 36 #[.agg #[.string n, .string v]] w fun e w' => e = .returned (.bool (isL (bl n) && valB (bl v))) ∧ Below w.heap.size w w' := by
  have IC := Lib.hid (fun wq => is_calls n hn wq)
  have VC := Lib.hid (fun wq => value_calls v hv ht wq)
  have B0 : Hid (Below w.heap.size w (w.alloc (.cells #[.string n, .string v] 61))) := (Below.refl _ w).alloc (Nat.le_refl _) _
  have CV : Hid ((w.alloc (.cells #[.string n, .string v] 61)).cell? ⟨w.heap.size, 1, none⟩ = some (.string v)) := World.cell?_alloc_at _ _ _ 1 (by simp)
  have LT : Hid (w.heap.size < (w.alloc (.cells #[.string n, .string v] 61)).heap.size) := by show _ < _; simp
  obtain ⟨a, ha⟩ : ∃ a, isL (bl n) = a := ⟨_, rfl⟩
  obtain ⟨b, hb⟩ : ∃ b, valB (bl v) = b := ⟨_, rfl⟩
  rw [ha] at IC ⊢
  rw [hb] at VC ⊢
  clear ha hb ht
  cases a with
  | false =>
    go_enter Tryd.func36, Tryd.ntmps36
    go_wp2_with fail
    refine (IC.out _).mono ?_
    rintro e w1 ⟨rfl, b1⟩
    have B1 : Hid (Below w.heap.size w w1) := B0.out.trans (b1.mono B0.out.size)
    clear b1 IC
    go_wp2_with fail
    go_ret
    exact ⟨rfl, B1.out⟩
  | true =>
    go_enter Tryd.func36, Tryd.ntmps36
    go_wp2_with fail
    refine (IC.out _).mono ?_
    rintro e w1 ⟨rfl, b1⟩
    have B1 : Hid (Below w.heap.size w w1) := B0.out.trans (b1.mono B0.out.size)
    have c1 : w1.cell? ⟨w.heap.size, 1, none⟩ = some (.string v) := (b1.cell (p := ⟨w.heap.size, 1, none⟩) LT.out).trans CV.out
    clear b1 IC
    go_wp2_with fail
    refine (VC.out _).mono ?_
    rintro e w2 ⟨rfl, b2⟩
    have B2 : Hid (Below w.heap.size w w2) := B1.out.trans (b2.mono B1.out.size)
    clear b2 VC
    go_wp2_with fail
    go_ret
    exact ⟨rfl, B2.out⟩
#print axioms fine_calls
theorem dw_idem (p : UInt8 → Bool) : ∀ l : List UInt8, (l.dropWhile p).dropWhile p = l.dropWhile p
  | [] => rfl
  | x :: l => by
    rw [List.dropWhile_cons]
    split
    · exact dw_idem p l
    · rename_i h
      rw [List.dropWhile_cons, if_neg h]
theorem ltr_idem (l : List UInt8) : ltrB (ltrB l) = ltrB l := dw_idem _ l
theorem rtr_idem (l : List UInt8) : rtrB (rtrB l) = rtrB l := by unfold rtrB; rw [List.reverse_reverse, dw_idem]
theorem trim_idem (l : List UInt8) : trimL (trimL l) = trimL l := by
  rw [trimL_eq, trimL_eq, ltr_rtr, ltr_idem, rtr_idem]
theorem trimL_le (l : List UInt8) : (trimL l).length ≤ l.length := by
  have h1 : ∀ (p : UInt8 → Bool) (l : List UInt8), (l.dropWhile p).length ≤ l.length := fun p l => (List.dropWhile_sublist p).length_le
  rw [trimL_eq]
  unfold rtrB ltrB
  rw [List.length_reverse]
  refine Nat.le_trans (h1 _ _) ?_
  rw [List.length_reverse]
  exact h1 _ _
theorem below_set {B : Nat} {a w : World} (h : Below B a w) {p : Addr} {v : Value} (hp : B ≤ p.block) : Below B a (w.setCell p v) :=
  ⟨h.os, h.tape, h.output, by have := h.size; simpa using this, fun b hb => by
    rw [← h.block b hb]
    have : p.block ≠ b := by omega
    unfold World.setCell
    simp [Array.getElem?_modify, this]⟩
theorem blk_facts {w : World} {b : Nat} {cs : Array Value} {T : TypeId} (h : w.heap[b]? = some (.cells cs T (0, 0))) : (∀ j, w.cell? ⟨b, j, none⟩ = cs[j]?) ∧ ∀ j, w.frozen? ⟨b, j, none⟩ = false := by
  constructor
  · intro j; unfold World.cell?; simp [h]
  · intro j; unfold World.frozen?; simp [h]
set_option maxHeartbeats 4000000 in
theorem parse_calls (s : ByteArray) (hs : s.size ≤ 1048576) (w : World) : Calls Tryd.prog 27 #[.string s] w fun e w' => (∃ v, e = .returned (.tuple #[v, .int .i64 (if parseL (bl s) = true then 0 else 31)])) ∧ Below w.heap.size w w' := by
  have CC := Lib.hid (fun wq => cut_calls s hs wq)
  unfold cutV at CC
  have B0 : Hid (Below w.heap.size w (w.alloc (.cells #[.string ⟨#[]⟩, .string ⟨#[]⟩] 61))) := (Below.refl _ w).alloc (Nat.le_refl _) _
  by_cases hk : colK (bl s) < (bl s).length
  · rw [if_pos hk] at CC
    have hp : parseL (bl s) = (isL ((bl s).take (colK (bl s))) && valB (trimL ((bl s).drop (colK (bl s) + 1)))) := by unfold parseL; rw [decide_eq_true hk]; rfl
    rw [hp]
    have l1 : ((bl s).take (colK (bl s))).length ≤ 1048576 := by rw [List.length_take, bl_len]; omega
    have l2 : ((bl s).drop (colK (bl s) + 1)).length ≤ 1048576 := by rw [List.length_drop, bl_len]; omega
    obtain ⟨N, hN⟩ : ∃ q, (bl s).take (colK (bl s)) = q := ⟨_, rfl⟩
    obtain ⟨V, hV⟩ : ∃ q, (bl s).drop (colK (bl s) + 1) = q := ⟨_, rfl⟩
    rw [hN] at CC l1 ⊢
    rw [hV] at CC l2 ⊢
    have TC := Lib.hid (fun wq => trim_calls (sb V) (by rw [sb_size]; exact l2) wq)
    rw [bl_sb] at TC
    have FC := Lib.hid (fun wq => fine_calls (sb N) (sb (trimL V)) (by rw [sb_size]; exact l1) (by rw [sb_size]; exact Nat.le_trans (trimL_le V) l2) (by rw [bl_sb]; exact trim_idem V) wq)
    rw [bl_sb, bl_sb] at FC
    obtain ⟨r, hr⟩ : ∃ q, (isL N && valB (trimL V)) = q := ⟨_, rfl⟩
    rw [hr] at FC ⊢
    clear hr hN hV hp l1 l2 hk hs
    go_enter Tryd.func27, Tryd.ntmps27
    go_wp2_with fail
    refine (CC.out _).mono ?_
    rintro e w1 ⟨rfl, b1⟩
    have B1 : Hid (Below w.heap.size w w1) := B0.out.trans (b1.mono B0.out.size)
    have k1 : w.heap.size < w1.heap.size := by have := b1.size; simp at this; omega
    have R0 : Hid (w1.heap[w.heap.size]? = some (.cells #[.string ⟨#[]⟩, .string ⟨#[]⟩] 61 (0, 0))) := (b1.block w.heap.size (by simp)).trans (MapKept.heap_alloc w _).1
    clear b1 CC B0
    go_wp2_with fail
    refine (TC.out _).mono ?_
    rintro e w2 ⟨rfl, b2⟩
    have B2 : Hid (Below w.heap.size w w2) := B1.out.trans (b2.mono B1.out.size)
    have k2 : w.heap.size < w2.heap.size := Nat.lt_of_lt_of_le k1 b2.size
    have R2 : Hid (w2.heap[w.heap.size]? = some (.cells #[.string ⟨#[]⟩, .string ⟨#[]⟩] 61 (0, 0))) := (b2.block w.heap.size k1).trans R0.out
    have B3 : Hid (Below w.heap.size w (w2.alloc (.cells #[.string (sb N), .string (sb (trimL V))] 61))) := B2.out.alloc B2.out.size _
    clear b2 TC B1 R0
    go_wp2_with fail
    refine (FC.out _).mono ?_
    rintro e w3 ⟨rfl, b3⟩
    have B4 : Hid (Below w.heap.size w w3) := B3.out.trans (b3.mono B3.out.size)
    have hsz : (w2.alloc (.cells #[.string (sb N), .string (sb (trimL V))] 61)).heap.size = w2.heap.size + 1 := by simp
    have x0 : w3.cell? ⟨w2.heap.size, 0, none⟩ = some (.string (sb N)) := (b3.cell (p := ⟨w2.heap.size, 0, none⟩) (by simp)).trans (World.cell?_alloc_at _ _ _ 0 (by simp))
    have x1 : w3.cell? ⟨w2.heap.size, 1, none⟩ = some (.string (sb (trimL V))) := (b3.cell (p := ⟨w2.heap.size, 1, none⟩) (by simp)).trans (World.cell?_alloc_at _ _ _ 1 (by simp))
    have R3 : w3.heap[w.heap.size]? = some (.cells #[.string ⟨#[]⟩, .string ⟨#[]⟩] 61 (0, 0)) := (b3.block w.heap.size (by rw [hsz]; omega)).trans (((MapKept.heap_alloc w2 _).2 w.heap.size k2).trans R2.out)
    obtain ⟨y, yf⟩ := blk_facts R3
    have y0 := y 0
    have y1 := y 1
    have hne : w2.heap.size ≠ w.heap.size := by omega
    simp at y0 y1
    clear b3 FC B2 B3 R2 hsz R3 y
    cases r with
    | true =>
      go_wp2_with fail
      have FIN : Below w.heap.size w ((w3.setCell ⟨w.heap.size, 0, none⟩ (.string (sb N))).setCell ⟨w.heap.size, 1, none⟩ (.string (sb (trimL V)))) := below_set (below_set B4.out (Nat.le_refl _)) (Nat.le_refl _)
      exact bodyPost_ret (v := .tuple #[.agg #[.string (sb N), .string (sb (trimL V))], .int .i64 0]) (by simp [results, Tryd.results27, go_sem, y0, y1, hne]) rfl ⟨⟨_, rfl⟩, FIN⟩
    | false =>
      go_wp2_with fail
      have FIN : Below w.heap.size w ((w3.setCell ⟨w.heap.size, 0, none⟩ (.string ⟨#[]⟩)).setCell ⟨w.heap.size, 1, none⟩ (.string ⟨#[]⟩)) := below_set (below_set B4.out (Nat.le_refl _)) (Nat.le_refl _)
      exact bodyPost_ret (v := .tuple #[.agg #[.string ⟨#[]⟩, .string ⟨#[]⟩], .int .i64 31]) (by simp [results, Tryd.results27, go_sem, y0, y1, hne]) rfl ⟨⟨_, rfl⟩, FIN⟩
  · rw [if_neg hk] at CC
    have hp : parseL (bl s) = false := by unfold parseL; rw [decide_eq_false hk]; rfl
    rw [hp]
    have TC := Lib.hid (fun wq => trim_calls ⟨#[]⟩ (by decide) wq)
    obtain ⟨T, hT⟩ : ∃ q, sb (trimL (bl ⟨#[]⟩)) = q := ⟨_, rfl⟩
    rw [hT] at TC
    clear hp hk hs hT
    go_enter Tryd.func27, Tryd.ntmps27
    go_wp2_with fail
    refine (CC.out _).mono ?_
    rintro e w1 ⟨rfl, b1⟩
    have B1 : Hid (Below w.heap.size w w1) := B0.out.trans (b1.mono B0.out.size)
    have k1 : w.heap.size < w1.heap.size := by have := b1.size; simp at this; omega
    have R0 : Hid (w1.heap[w.heap.size]? = some (.cells #[.string ⟨#[]⟩, .string ⟨#[]⟩] 61 (0, 0))) := (b1.block w.heap.size (by simp)).trans (MapKept.heap_alloc w _).1
    clear b1 CC B0
    go_wp2_with fail
    refine (TC.out _).mono ?_
    rintro e w2 ⟨rfl, b2⟩
    have B2 : Hid (Below w.heap.size w w2) := B1.out.trans (b2.mono B1.out.size)
    have k2 : w.heap.size < w2.heap.size := Nat.lt_of_lt_of_le k1 b2.size
    have R2 : Hid (w2.heap[w.heap.size]? = some (.cells #[.string ⟨#[]⟩, .string ⟨#[]⟩] 61 (0, 0))) := (b2.block w.heap.size k1).trans R0.out
    have B3 : Hid (Below w.heap.size w (w2.alloc (.cells #[.string s, .string T] 61))) := B2.out.alloc B2.out.size _
    have hne : w.heap.size ≠ w2.heap.size := by omega
    have hne2 : w2.heap.size ≠ w.heap.size := by omega
    obtain ⟨y, yf⟩ := blk_facts R2.out
    have y0 := y 0
    have y1 := y 1
    simp only [List.getElem?_toArray, List.getElem?_cons_zero, List.getElem?_cons_succ] at y0 y1
    clear b2 TC B1 R0 R2 y
    go_wp2_with fail
    have hb5 : Below w.heap.size w ((w2.setCell ⟨w.heap.size, 0, none⟩ (.string ⟨#[]⟩)).setCell ⟨w.heap.size, 1, none⟩ (.string ⟨#[]⟩)) := below_set (below_set B2.out (Nat.le_refl _)) (Nat.le_refl _)
    have FIN : Below w.heap.size w (((w2.setCell ⟨w.heap.size, 0, none⟩ (.string ⟨#[]⟩)).setCell ⟨w.heap.size, 1, none⟩ (.string ⟨#[]⟩)).alloc (.cells #[.string s, .string T] 61)) := hb5.alloc hb5.size _
    have sz5 : ((w2.setCell ⟨w.heap.size, 0, none⟩ (.string ⟨#[]⟩)).setCell ⟨w.heap.size, 1, none⟩ (.string ⟨#[]⟩)).heap.size = w2.heap.size := by simp [World.setCell]
    have z0 : (((w2.setCell ⟨w.heap.size, 0, none⟩ (.string ⟨#[]⟩)).setCell ⟨w.heap.size, 1, none⟩ (.string ⟨#[]⟩)).alloc (.cells #[.string s, .string T] 61)).cell? ⟨w.heap.size, 0, none⟩ = some (.string ⟨#[]⟩) := by
      rw [World.cell?_alloc_lt _ _ _ (by show w.heap.size < ((w2.setCell ⟨w.heap.size, 0, none⟩ (.string ⟨#[]⟩)).setCell ⟨w.heap.size, 1, none⟩ (.string ⟨#[]⟩)).heap.size; rw [sz5]; exact k2)]; simp [go_sem, y0, y1]
    have z1 : (((w2.setCell ⟨w.heap.size, 0, none⟩ (.string ⟨#[]⟩)).setCell ⟨w.heap.size, 1, none⟩ (.string ⟨#[]⟩)).alloc (.cells #[.string s, .string T] 61)).cell? ⟨w.heap.size, 1, none⟩ = some (.string ⟨#[]⟩) := by
      rw [World.cell?_alloc_lt _ _ _ (by show w.heap.size < ((w2.setCell ⟨w.heap.size, 0, none⟩ (.string ⟨#[]⟩)).setCell ⟨w.heap.size, 1, none⟩ (.string ⟨#[]⟩)).heap.size; rw [sz5]; exact k2)]; simp [go_sem, y0, y1]
    exact bodyPost_ret (v := .tuple #[.agg #[.string ⟨#[]⟩, .string ⟨#[]⟩], .int .i64 31]) (by simp [results, Tryd.results27, go_sem, z0, z1]) rfl ⟨⟨_, rfl⟩, FIN⟩
#print axioms parse_calls
end Go.Proofs.YtibhnkkfaochhaaDoor.Dec
