/-
  Layer 15: Alloc.
-/
import Derived.Test.YtefcinifaaablaaSlabDrop
namespace Go.Proofs.Ytefcinifaaablaa.Slab
open Go.RowKit Go.Sep
set_option maxRecDepth 100000
set_option linter.unusedVariables false
set_option linter.unusedSimpArgs false

/-- One block's record, its bytes, and the rest of the arena. -/
theorem arena_rec {a : Nat} {m : List Cls} {F : Asr} (c i : Nat) (hc : c < m.length) (hi : i < m[c].l.length) :
    ∃ R, arenaA a m * F = pts m[c].blk (.cells (flat Blk.enc m[c].l) 110 (0, 0)) * (bytesA m[c].l[i] * R) ∧
      ∀ b : Blk, arenaA a (setBlk m c i b) * F = pts m[c].blk (.cells (flat Blk.enc (m[c].l.set i b)) 110 (0, 0)) * (bytesA b * R) := by
  refine ⟨big bytesA (m[c].l.eraseIdx i) * (pts a (.cells (Value.bool true :: m.map Cls.sl).toArray 99 (0, 0)) * (big clsA (m.eraseIdx c) * F)), ?_, ?_⟩
  · rw [arena_cls c hc]
    unfold clsA
    rw [big_at bytesA _ i hi]
    ac_rfl
  · intro b
    have hm := setBlk_eq (m := m) (i := i) (b := b) hc
    have hc' : c < (setBlk m c i b).length := by rw [hm]; simpa using hc
    rw [arena_cls c hc']
    have e1 : (setBlk m c i b)[c] = ⟨m[c].blk, m[c].l.set i b⟩ := by simp [hm]
    have e2 : (setBlk m c i b).eraseIdx c = m.eraseIdx c := by rw [hm, List.eraseIdx_set_eq]
    have e3 : (setBlk m c i b).map Cls.sl = m.map Cls.sl := by
      rw [hm, List.map_set]
      have : Cls.sl ⟨m[c].blk, m[c].l.set i b⟩ = (m.map Cls.sl)[c]'(by simpa using hc) := by simp [Cls.sl]
      rw [this, List.set_getElem_self]
    rw [e1, e2, e3]
    unfold clsA
    simp only
    rw [big_set _ _ _ _ hi]
    ac_rfl

def made (loc n : Nat) (b : Blk) : Blk := { b with made := true, loc := loc, bytes := zeros n }
/-- what Alloc makes of a free block -/
def taken (b : Blk) : Blk := { b with gen := wrap64 (b.gen + 1), held := 1 }

theorem arena_make {w : World} {a loc n : Nat} {m : List Cls} {F : Asr} (c i : Nat) (hc : c < m.length) (hi : i < m[c].l.length) (hno : m[c].l[i].made = false)
    (h : Holds w (pts loc (.cells (Array.replicate n (.int .u8 0)) 5 (0, 0)) * (arenaA a m * F))) :
    Holds (w.setCell ⟨m[c].blk, i * 3, none⟩ (.slice (some ⟨loc, 0, none⟩) n n)) (arenaA a (setBlk m c i (made loc n m[c].l[i])) * F) := by
  obtain ⟨R, h1, h2⟩ := arena_rec (a := a) (F := F) c i hc hi
  rw [h1, star_left_comm] at h
  have h3 := h.store (i * 3) (.slice (some ⟨loc, 0, none⟩) n n)
  rw [show i * 3 = i * 3 + 0 from rfl, flat_set enc_len i 0 hi (by omega) _ (made loc n m[c].l[i]) (by simp [made, Blk.enc, Blk.sl, zeros])] at h3
  rw [h2]
  refine h3.eqv ?_
  congr 1
  have e1 : bytesA m[c].l[i] = emp := by unfold bytesA; rw [hno]; rfl
  have e2 : bytesA (made loc n m[c].l[i]) = pts loc (.cells (Array.replicate n (.int .u8 0)) 5 (0, 0)) := by simp [bytesA, made, zeros]
  rw [e1, e2, emp_star]

theorem arena_take {w : World} {a : Nat} {m : List Cls} {F : Asr} (c i : Nat) (hc : c < m.length) (hi : i < m[c].l.length) (h : Holds w (arenaA a m * F)) :
    Holds ((w.setCell ⟨m[c].blk, i * 3 + 1, none⟩ (.int .i64 (wrap64 (m[c].l[i].gen + 1)))).setCell ⟨m[c].blk, i * 3 + 2, none⟩ (.int .i64 1)) (arenaA a (setBlk m c i (taken m[c].l[i])) * F) := by
  have k1 := arena_set h c i 1 hc hi (by omega) (.int .i64 (wrap64 (m[c].l[i].gen + 1))) { m[c].l[i] with gen := wrap64 (m[c].l[i].gen + 1) } rfl rfl
  obtain ⟨g1, g2, g3, g4⟩ := setBlk_get (b := { m[c].l[i] with gen := wrap64 (m[c].l[i].gen + 1) }) hc hi
  have k2 := arena_set k1 c i 2 g1 g2 (by omega) (.int .i64 1) (taken m[c].l[i]) (by rw [g3]; rfl) (by rw [g3]; rfl)
  rw [setBlk_setBlk, g4] at k2
  exact k2

set_option maxHeartbeats 400000 in
theorem alloc_arg (a : Nat) (n : Int) (w : World) (hn : n < 0 ∨ 4096 < n) (h1 : w.cell? ⟨a, 0, none⟩ = some (.bool true)) (h3 : a < w.heap.size) :
    Calls Try.prog 71 #[.pointer (some ⟨a, 0, none⟩), .int .i64 n] w fun e w' => e = .returned (.tuple #[hdl 0 0 0, .int .i64 2]) ∧ Below w.heap.size w w' := by
  rcases hn with hn | hn
  all_goals
    go_enter Try.func71, Try.ntmps71
    go_wp2_with (go_at_call 49; refine (none_calls _ _ ?_).mono ?_; go_simp; rintro e w' ⟨rfl, rfl⟩)
    exact bodyPost_ret (v := .tuple #[hdl 0 0 0, .int .i64 2]) (by simp [results, Try.results71, go_sem, hdl]) rfl ⟨rfl, (Below.refl _ _).alloc (Nat.le_refl _) _⟩

set_option maxHeartbeats 400000 in
theorem alloc_full (a : Nat) (m : List Cls) (F : Asr) (n : Int) (w : World) (hf : Fit m) (hw : Holds w (arenaA a m * F)) (h0 : 0 ≤ n) (hn : n ≤ 4096) (c : Nat) (hc : c < m.length) (hcn : clsFor n = c) (hfull : freeAt m[c].l = m[c].l.length) :
    Calls Try.prog 71 #[.pointer (some ⟨a, 0, none⟩), .int .i64 n] w fun e w' => e = .returned (.tuple #[hdl 0 0 0, .int .i64 14]) ∧ Below w.heap.size w w' := by
  have h1 := arena_made hw
  have h2 := arena_sl hw c hc
  have h3 := arena_lt hw
  have hw1 := (hw.alloc (.cells #[.int .i64 0, .int .i64 0, .int .i64 0] 106)).right.eqv (arena_cls c hc)
  have FI := first_calls m[c] _ _ (hf.cap _ (List.getElem_mem hc)) hw1
  rw [hfull] at FI
  unfold Cls.sl at FI h2
  have CC := Lib.hid (fun w => classOf_calls n w)
  rw [hcn] at CC
  have hl := hf.cap _ (List.getElem_mem hc)
  generalize m[c].l.length = len at *
  generalize m[c].blk = B at *
  have g7 : (0 : Int) ≤ (c : Int) := by omega
  have g8 : (c : Int) < 4 := by have := hf.len; omega
  have FI' := Lib.hid FI
  clear FI hw1 hcn hw hf hc hfull
  go_enter Try.func71, Try.ntmps71
  go_wp2_with (first | (go_at_call 49; refine (none_calls _ _ ?_).mono ?_; go_simp; rintro e w' ⟨rfl, rfl⟩) | (go_at_call 88; refine (CC.out _).mono ?_; rintro e w' ⟨rfl, rfl⟩) | (go_at_call 89; refine (FI'.out).mono ?_; rintro e w' ⟨rfl, rfl⟩))
  exact bodyPost_ret (v := .tuple #[hdl 0 0 0, .int .i64 14]) (by simp [results, Try.results71, go_sem, hdl]) rfl ⟨rfl, (Below.refl _ _).alloc (Nat.le_refl _) _⟩

theorem run_make_u8 (n : Nat) (hn : n ≤ 4096) (w : World) : (Instr.makeSlice 30 (.int .i64 n) (.int .i64 n)).run Try.prog w = .ok (.slice (some ⟨w.heap.size, 0, none⟩) n n) (w.alloc (.cells (Array.replicate n (.int .u8 0)) 5)) := by
  obtain ⟨i, hi, hz, hs, hb⟩ := info_parts (P := Try.prog) (e := 5) (z := .int .u8 0) (size := 1) (bytes := 1) (by kernel_rfl)
  have h := run_make (P := Try.prog) w 30 5 i (.int .u8 0) Try.underlying30 hi hz .i64 .i64 n n (by omega) (by omega) (by rw [hb]; omega) (by omega)
  rw [h]
  simp only [Int.toNat_natCast, hs, Nat.mul_one, Result.ok.injEq, true_and]
  congr 2
  apply Array.ext'
  apply List.ext_getElem <;> simp [madeCells, Value.cells, Nat.mod_one]

set_option maxHeartbeats 1000000 in
theorem alloc_made (a : Nat) (m : List Cls) (F : Asr) (n : Int) (w : World) (hf : Fit m) (hw : Holds w (arenaA a m * F)) (h0 : 0 ≤ n) (hn : n ≤ 4096) (c i : Nat) (hc : c < m.length) (hcn : clsFor n = c) (hi : i < m[c].l.length) (hfree : freeAt m[c].l = i) (hm : m[c].l[i].made = true) :
    Calls Try.prog 71 #[.pointer (some ⟨a, 0, none⟩), .int .i64 n] w fun e w' => e = .returned (.tuple #[hdl c i (wrap64 (m[c].l[i].gen + 1)), .int .i64 0]) ∧ Holds w' (arenaA a (setBlk m c i (taken m[c].l[i])) * F) ∧ Sm w w' := by
  have h1 := arena_made hw
  have h3 := arena_lt hw
  obtain ⟨h2, h4, h5, h6, h7, h9⟩ := arena_facts hf hw c i hc hi
  have hw1 := (hw.alloc (.cells #[.int .i64 0, .int .i64 0, .int .i64 0] 106)).right.eqv (arena_cls c hc)
  have FI := first_calls m[c] _ _ (hf.cap _ (List.getElem_mem hc)) hw1
  have FIN := arena_take c i hc hi hw
  rw [hfree] at FI
  unfold Cls.sl at FI
  have CC := Lib.hid (fun w => classOf_calls n w)
  rw [hcn] at CC
  have hl := hf.cap _ (List.getElem_mem hc)
  rw [Blk.sl, if_pos hm] at h4
  have FIN' := Lib.hid FIN
  clear hm
  revert FIN'
  generalize (setBlk m c i _) = m' at *
  generalize m[c].l[i].bytes.length = nb at *
  generalize m[c].l[i].gen = gen at *
  generalize m[c].l[i].held = held at *
  generalize m[c].l[i].loc = loc at *
  generalize m[c].l.length = len at *
  generalize m[c].blk = B at *
  intro FIN'
  have g7 : (0 : Int) ≤ (c : Int) := by omega
  have g8 : (c : Int) < 4 := by have := hf.len; omega
  have g9 : (0 : Int) ≤ (i : Int) := by omega
  have g10 : (i : Int) < (len : Int) := by omega
  have g11 : ((i : Int) == (len : Int)) = false := by simp; omega
  have g12 : (i == len) = false := by simp; omega
  have FI' := Lib.hid FI
  have h10 := h9 (i * 3 + 1)
  have h11 := h9 (i * 3 + 2)
  have hsn := fun (w : World) a n c => Lib.run_eql_slice_nil (P := Try.prog) w 30 5 a n c 0 0 Try.underlying30
  clear FI FIN hw1 hcn hw hf hc hfree h9
  go_enter Try.func71, Try.ntmps71
  go_wp2_with (first | (go_at_call 49; refine (none_calls _ _ ?_).mono ?_; go_simp; rintro e w' ⟨rfl, rfl⟩) | (go_at_call 88; refine (CC.out _).mono ?_; rintro e w' ⟨rfl, rfl⟩) | (go_at_call 89; refine (FI'.out).mono ?_; rintro e w' ⟨rfl, rfl⟩))
  exact bodyPost_ret (v := .tuple #[hdl c i (wrap64 (gen + 1)), .int .i64 0]) (by simp [results, Try.results71, go_sem, hdl]) rfl ⟨rfl, (FIN'.out.alloc _).right, (((Sm.refl w).setCell _ _).setCell _ _).alloc _⟩
set_option maxHeartbeats 1000000 in
theorem alloc_new (a : Nat) (m : List Cls) (F : Asr) (n : Int) (w : World) (hf : Fit m) (hw : Holds w (arenaA a m * F)) (h0 : 0 ≤ n) (hn : n ≤ 4096) (c i : Nat) (hc : c < m.length) (hcn : clsFor n = c) (hi : i < m[c].l.length) (hfree : freeAt m[c].l = i) (hm : m[c].l[i].made = false) :
    Calls Try.prog 71 #[.pointer (some ⟨a, 0, none⟩), .int .i64 n] w fun e w' => e = .returned (.tuple #[hdl c i (wrap64 (m[c].l[i].gen + 1)), .int .i64 0]) ∧ Holds w' (arenaA a (setBlk m c i (taken (made (w.heap.size + 1) (szOf c).toNat m[c].l[i]))) * F) ∧ Sm w w' := by
  have h1 := arena_made hw
  have h3 := arena_lt hw
  obtain ⟨h2, h4, h5, h6, h7, h9⟩ := arena_facts hf hw c i hc hi
  have hw1 := (hw.alloc (.cells #[.int .i64 0, .int .i64 0, .int .i64 0] 106)).right.eqv (arena_cls c hc)
  have FI := first_calls m[c] _ _ (hf.cap _ (List.getElem_mem hc)) hw1
  have FIN : Holds (((((w.setCell ⟨m[c].blk, i * 3, none⟩ (.slice (some ⟨w.heap.size + 1, 0, none⟩) (szOf c).toNat (szOf c).toNat)).setCell ⟨m[c].blk, i * 3 + 1, none⟩ (.int .i64 (wrap64 (m[c].l[i].gen + 1)))).setCell ⟨m[c].blk, i * 3 + 2, none⟩ (.int .i64 1)).alloc (.cells #[.int .i64 c, .int .i64 i, .int .i64 (wrap64 (m[c].l[i].gen + 1))] 106)).alloc (.cells (Array.replicate (szOf c).toNat (.int .u8 0)) 5)) (arenaA a (setBlk m c i (taken (made (w.heap.size + 1) (szOf c).toNat m[c].l[i]))) * F) := by
    have k0 := (hw.alloc (.cells #[.int .i64 c, .int .i64 i, .int .i64 (wrap64 (m[c].l[i].gen + 1))] 106)).right.alloc (.cells (Array.replicate (szOf c).toNat (.int .u8 0)) 5)
    have k1 := arena_make c i hc hi hm k0
    obtain ⟨g1, g2, g3, g4⟩ := setBlk_get (b := made (w.heap.size + 1) (szOf c).toNat m[c].l[i]) hc hi
    simp only [World.size_alloc] at k1
    have k2 := arena_take c i g1 g2 k1
    rw [g3, g4, setBlk_setBlk] at k2
    have b1 : m[c].blk < w.heap.size := h7
    have b2 : ∀ (W : World) (o : Obj) (k : Nat) (v : Value), w.heap.size ≤ W.heap.size → (W.alloc o).setCell ⟨m[c].blk, k, none⟩ v = (W.setCell ⟨m[c].blk, k, none⟩ v).alloc o := fun W o k v hW => World.setCell_alloc_past o _ k v (by omega)
    have b3 : (made (w.heap.size + 1) (szOf c).toNat m[c].l[i]).gen = m[c].l[i].gen := rfl
    rw [b3] at k2
    rw [b2 _ _ _ _ (by simp), b2 _ _ _ _ (by simp), b2 _ _ _ _ (by simp), b2 _ _ _ _ (by simp), b2 _ _ _ _ (by simp), b2 _ _ _ _ (by simp)] at k2
    exact k2
  have SZ := Lib.hid (fun w => sizes_calls c w)
  have hsz : ∃ n : Nat, szOf c = n ∧ n ≤ 4096 := by
    refine ⟨(szOf c).toNat, ?_, ?_⟩ <;> unfold szOf <;> split <;> (try split) <;> (try split) <;> (try split) <;> simp
  obtain ⟨sz, hsz1, hsz2⟩ := hsz
  rw [hsz1] at SZ FIN
  rw [Int.toNat_natCast] at FIN
  have hmk := run_make_u8 sz hsz2
  rw [hfree] at FI
  unfold Cls.sl at FI
  have CC := Lib.hid (fun w => classOf_calls n w)
  rw [hcn] at CC
  have hl := hf.cap _ (List.getElem_mem hc)
  rw [Blk.sl, hm, if_neg (by simp)] at h4
  simp only [hsz1, Int.toNat_natCast]
  have FIN' := Lib.hid FIN
  clear hm
  revert FIN'
  generalize (setBlk m c i _) = m' at *
  generalize m[c].l[i].gen = gen at *
  generalize m[c].l[i].held = held at *
  generalize m[c].l.length = len at *
  generalize m[c].blk = B at *
  intro FIN'
  have g7 : (0 : Int) ≤ (c : Int) := by omega
  have g8 : (c : Int) < 4 := by have := hf.len; omega
  have g9 : (0 : Int) ≤ (i : Int) := by omega
  have g10 : (i : Int) < (len : Int) := by omega
  have g11 : ((i : Int) == (len : Int)) = false := by simp; omega
  have g12 : (i == len) = false := by simp; omega
  have FI' := Lib.hid FI
  have h10 := h9 (i * 3 + 1)
  have h12 := h9 (i * 3)
  have h11 := h9 (i * 3 + 2)
  have hsn := fun (w : World) a n c => Lib.run_eql_slice_nil (P := Try.prog) w 30 5 a n c 0 0 Try.underlying30
  clear FI FIN hw1 hsz1 hsz2 hcn hw hf hc hfree h9
  go_enter Try.func71, Try.ntmps71
  go_wp2_with (first | (go_at_call 49; refine (none_calls _ _ ?_).mono ?_; go_simp; rintro e w' ⟨rfl, rfl⟩) | (go_at_call 88; refine (CC.out _).mono ?_; rintro e w' ⟨rfl, rfl⟩) | (go_at_call 89; refine (FI'.out).mono ?_; rintro e w' ⟨rfl, rfl⟩) | (go_at_call 16; refine (SZ.out _).mono ?_; rintro e w' ⟨rfl, rfl⟩))

  exact bodyPost_ret (v := .tuple #[hdl c i (wrap64 (gen + 1)), .int .i64 0]) (by simp [results, Try.results71, go_sem, hdl]) rfl ⟨rfl, FIN'.out, (((((Sm.refl w).setCell _ _).setCell _ _).setCell _ _).alloc _).alloc _⟩
end Go.Proofs.Ytefcinifaaablaa.Slab
