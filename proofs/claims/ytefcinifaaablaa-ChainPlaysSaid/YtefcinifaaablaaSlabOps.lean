/-
  Layer 15: the calls over the arena as its callers see it.
-/
import Derived.Test.YtefcinifaaablaaSlabRd
namespace Go.Proofs.Ytefcinifaaablaa.Slab
open Go.RowKit Go.Sep
set_option maxRecDepth 100000
set_option linter.unusedVariables false
set_option linter.unusedSimpArgs false

structure Did where
  A : List (List ABlk)
  e : Int
structure Got where
  b : List Int
  e : Int
def heldA (A : List (List ABlk)) (c i g : Int) : Int := if rightA A c i g then ((blkA A c i).getD default).held else 0
def holdA (A : List (List ABlk)) (c i g : Int) : Did :=
  if rightA A c i g then
    let b := (blkA A c i).getD default
    if b.held = 1048576 then ⟨A, 3⟩ else ⟨setA A c i { b with held := b.held + 1 }, 0⟩
  else ⟨A, 15⟩
def dropB (b : ABlk) : ABlk := { b with held := b.held - 1, bytes := if b.held = 1 then zeros b.bytes.length else b.bytes }
def dropA (A : List (List ABlk)) (c i g : Int) : Did :=
  if rightA A c i g then ⟨setA A c i (dropB ((blkA A c i).getD default)), 0⟩ else ⟨A, 15⟩
def writeA (A : List (List ABlk)) (c i g at_ : Int) (bs : List Int) : Did :=
  if rightA A c i g then
    let b := (blkA A c i).getD default
    if at_ < 0 ∨ (b.bytes.length : Int) < at_ ∨ (b.bytes.length : Int) - at_ < bs.length then ⟨A, 2⟩
    else ⟨setA A c i { b with bytes := b.bytes.take at_.toNat ++ bs ++ b.bytes.drop (at_.toNat + bs.length) }, 0⟩
  else ⟨A, 15⟩
def readA (A : List (List ABlk)) (c i g at_ n : Int) : Got :=
  if rightA A c i g then
    let b := (blkA A c i).getD default
    if at_ < 0 ∨ n < 0 ∨ (b.bytes.length : Int) < at_ ∨ (b.bytes.length : Int) - at_ < n then ⟨[], 2⟩
    else ⟨(b.bytes.drop at_.toNat).take n.toNat, 0⟩
  else ⟨[], 15⟩
def liveA (A : List (List ABlk)) (c : Int) : Nat := if 0 ≤ c then (A.getD c.toNat []).countP (fun b => decide (0 < b.held)) else 0

theorem RepB.bl {sz : Nat} {b : Blk} {a : ABlk} (h : RepB sz b a) (hm : b.made = true) : b.bytes.length = sz := by rw [h.yes hm, h.len]

theorem holdA_calls (a : Nat) (A : List (List ABlk)) (F : Asr) (c i g : Int) (w : World) (hw : Holds w (Ar a A * F)) :
    Calls Try.prog 54 #[.pointer (some ⟨a, 0, none⟩), hdl c i g] w fun e w' => e = .returned (.int .i64 (holdA A c i g).e) ∧ Holds w' (Ar a (holdA A c i g).A * F) ∧ Sm w w' := by
  obtain ⟨m, hr, hw'⟩ := ar_open hw
  unfold holdA
  cases h : rightA A c i g with
  | false => exact (hold_no a m F w c i g hr.fit hw' (by rw [right_rel hr]; exact h)).mono fun e w' ⟨k1, k2⟩ => ⟨k1, hw.grow k2, .of_below k2⟩
  | true =>
    obtain ⟨c', i', h1, h2, h3, h4, rfl, rfl, hb, hR, hh, hg, hm⟩ := right_yes hr h
    simp only [hb, Option.getD_some, if_true]
    by_cases hbig : A[c'][i'].held = 1048576
    · rw [if_pos hbig]
      exact (hold_big a m F w c' i' hr.fit h1 h3 g (by rw [hR.gen, hg]) hw' (by rw [hR.held, hbig])).mono fun e w' ⟨k1, k2⟩ => ⟨k1, hw.grow k2, .of_below k2⟩
    · rw [if_neg hbig]
      have b1 := hR.lo
      have b2 := hR.hi
      refine (hold_yes a m F w c' i' hr.fit h1 h3 g (by rw [hR.gen, hg]) hw' (by rw [hR.held]; omega) (by rw [hR.held]; omega)).mono fun e w' ⟨k1, k2, k3⟩ => ⟨k1, ar_shut (hr.set c' i' h1 ?_) k2, k3⟩
      exact ⟨by show m[c'].l[i'].held + 1 = _; rw [hR.held], hR.gen, hR.yes, fun h => by rw [hm] at h; simp at h, hR.len, by show 0 ≤ A[c'][i'].held + 1; omega, by show A[c'][i'].held + 1 ≤ _; omega, fun h => by (have h : A[c'][i'].held + 1 = 0 := h); omega, hR.byte, hR.wf⟩

theorem dropA_calls (a : Nat) (A : List (List ABlk)) (F : Asr) (c i g : Int) (w : World) (hw : Holds w (Ar a A * F)) :
    Calls Try.prog 56 #[.pointer (some ⟨a, 0, none⟩), hdl c i g] w fun e w' => e = .returned (.int .i64 (dropA A c i g).e) ∧ Holds w' (Ar a (dropA A c i g).A * F) ∧ Sm w w' := by
  obtain ⟨m, hr, hw'⟩ := ar_open hw
  unfold dropA
  cases h : rightA A c i g with
  | false => exact (drop_no a m F w c i g hr.fit hw' (by rw [right_rel hr]; exact h)).mono fun e w' ⟨k1, k2⟩ => ⟨k1, hw.grow k2, .of_below k2⟩
  | true =>
    obtain ⟨c', i', h1, h2, h3, h4, rfl, rfl, hb, hR, hh, hg, hm⟩ := right_yes hr h
    simp only [hb, Option.getD_some, if_true]
    have b1 := hR.lo
    have b2 := hR.hi
    have hc4 : c' < 4 := by have := hr.len; omega
    have hlen := hR.bl hm
    refine (drop_yes a m F w c' i' hr.fit h1 h3 g (by rw [hR.gen, hg]) hw' (by rw [hR.held]; omega) (by rw [hR.held]; omega) hm (by rw [hlen]; exact (szN_val c' hc4).2.1)).mono fun e w' ⟨k1, k2, k3⟩ => ⟨k1, ar_shut (hr.set c' i' h1 ?_) k2, k3⟩
    refine ⟨by show m[c'].l[i'].held - 1 = A[c'][i'].held - 1; rw [hR.held], hR.gen, fun _ => ?_, fun h => ?_, ?_, by show 0 ≤ A[c'][i'].held - 1; omega, by show A[c'][i'].held - 1 ≤ _; omega, fun h => ?_, ?_, hR.wf⟩
    · simp only [dropped, dropB, hR.held, hR.yes hm]
    · exfalso; have : m[c'].l[i'].made = false := h; rw [hm] at this; simp at this
    · simp only [dropB]; split
      · simp [zeros, hR.len]
      · exact hR.len
    · have h' : A[c'][i'].held - 1 = 0 := h
      simp only [dropB]; rw [if_pos (by omega), hR.len]
    · simp only [dropB]; split
      · intro x hx; simp only [zeros] at hx; have := (List.mem_replicate.1 hx).2; omega
      · exact hR.byte

/-- what 'at' answers, wherever memory has only grown -/
theorem at_any (a : Nat) (m : List Cls) (F : Asr) (w : World) (c i : Nat) (hf : Fit m) (hc : c < m.length) (hi : i < m[c].l.length) (g : Int) (hg : m[c].l[i].gen = g) (hw : Holds w (arenaA a m * F)) (hh : (m[c].l[i].held == 0) = false) :
    Hid (∀ W, Below w.heap.size w W → Calls Try.prog 73 #[.pointer (some ⟨a, 0, none⟩), hdl c i g] W fun e w' => e = .returned (.tuple #[.pointer (some ⟨m[c].blk, i * 3, none⟩), .int .i64 0]) ∧ Below W.heap.size W w') :=
  fun W hb => at_yes a m F W c i hf hc hi g hg (hw.grow hb) hh

theorem writeA_calls (a : Nat) (A : List (List ABlk)) (F : Asr) (c i g at_ : Int) (so : Option Addr) (sn sc : Nat) (bs : List Int) (w : World) (hw : Holds w (Ar a A * F)) (hs : Src w so sn bs) (hb8 : ∀ x ∈ bs, 0 ≤ x ∧ x < 256) :
    Calls Try.prog 48 #[.pointer (some ⟨a, 0, none⟩), hdl c i g, .int .i64 at_, .slice so sn sc] w fun e w' => e = .returned (.int .i64 (writeA A c i g at_ bs).e) ∧ Holds w' (Ar a (writeA A c i g at_ bs).A * F) ∧ Sm w w' := by
  obtain ⟨m, hr, hw'⟩ := ar_open hw
  unfold writeA
  cases h : rightA A c i g with
  | false => exact (write_no a m F w c i g at_ _ hr.fit hw' (by rw [right_rel hr]; exact h)).mono fun e w' ⟨k1, k2⟩ => ⟨k1, hw.grow k2, .of_below k2⟩
  | true =>
    obtain ⟨c', i', h1, h2, h3, h4, rfl, rfl, hb, hR, hh, hg, hm⟩ := right_yes hr h
    simp only [hb, Option.getD_some, if_true]
    have hAT := at_any a m F w c' i' hr.fit h1 h3 g (by rw [hR.gen, hg]) hw' (by rw [hR.held]; simpa using hh)
    obtain ⟨-, f4, -, -, f7, -⟩ := arena_facts hr.fit hw' c' i' h1 h3
    have hc4 : c' < 4 := by have := hr.len; omega
    have hlen := hR.bl hm
    have hal := hR.len
    have hsz := (szN_val c' hc4).2.2
    rw [Blk.sl, if_pos hm] at f4
    have hsl := hs.len
    by_cases hbad : at_ < 0 ∨ (A[c'][i'].bytes.length : Int) < at_ ∨ (A[c'][i'].bytes.length : Int) - at_ < bs.length
    · rw [if_pos hbad]
      exact (write_arg a _ c' i' _ g at_ so sn sc _ w hAT f4 f7 (by omega) (by omega)).mono fun e w' ⟨k1, k2⟩ => ⟨k1, hw.grow k2, .of_below k2⟩
    · rw [if_neg hbad]
      obtain ⟨k, rfl⟩ := Int.eq_ofNat_of_zero_le (show 0 ≤ at_ by omega)
      have hk : k ≤ szN c' := by omega
      have hkn : sn ≤ szN c' - k := by omega
      have cp : ∀ d : Nat, (k < szN c' ∧ d = k) ∨ (k = szN c' ∧ d = 0) → Hid (∀ W, Below w.heap.size w W → ∃ W1, (∀ ty, (Builtin.copy_ #[30, 30] ty #[.slice (some ⟨m[c'].l[i'].loc, d, none⟩) (szN c' - k) (szN c' - k), .slice so sn sc]).run Try.prog W = .ok (goInt sn) W1) ∧
          (Holds W1 (Ar a (setA A c' i' { A[c'][i'] with bytes := A[c'][i'].bytes.take k ++ bs ++ A[c'][i'].bytes.drop (k + bs.length) }) * F) ∧ Sm w W1)) := by
        intro d hd W hB
        have hW := hw'.grow hB
        obtain ⟨F', q1, q2⟩ := arena_clear c' i' h1 h3 hm hW
        rw [hR.yes hm] at q1
        have hfit : d + sn ≤ ((A[c'][i'].bytes.map (Value.int .u8)).toArray).size := by simp [hal]; omega
        have hrow : ((A[c'][i'].bytes.map (Value.int .u8)).toArray.toList.take d ++ u8s bs ++ (A[c'][i'].bytes.map (Value.int .u8)).toArray.toList.drop (d + sn)).toArray = ((A[c'][i'].bytes.take k ++ bs ++ A[c'][i'].bytes.drop (k + bs.length)).map (Value.int .u8)).toArray := by
          have : d = k ∨ (k = szN c' ∧ d = 0 ∧ sn = 0) := by omega
          rcases this with rfl | ⟨e1, rfl, e3⟩
          · simp [u8s, ← hsl, List.map_take, List.map_drop]
          · have hb0 : bs = [] := List.eq_nil_of_length_eq_zero (by omega)
            rw [hb0, e3, List.take_of_length_le (by omega : A[c'][i'].bytes.length ≤ k), List.drop_of_length_le (by simp; omega : A[c'][i'].bytes.length ≤ k + ([] : List Int).length)]
            simp [u8s]
        have q1' := q1.setRow ((A[c'][i'].bytes.map (Value.int .u8)).toArray.toList.take d ++ u8s bs ++ (A[c'][i'].bytes.map (Value.int .u8)).toArray.toList.drop (d + sn)).toArray
        have q3 := q2 _ (A[c'][i'].bytes.take k ++ bs ++ A[c'][i'].bytes.drop (k + bs.length)) (by rw [hR.yes hm]; simp; omega) (q1'.eqv (by rw [hrow]))
        refine ⟨_, fun ty => run_copy_sep ty Try.underlying30 (fun w => by kernel_rfl) q1 (sl := sn) (n := sn) rfl (Nat.min_eq_left hkn) ((hs.grow hB).first) (by simp [u8s, hsl]) (by intro v hv; obtain ⟨x, -, rfl⟩ := List.mem_map.1 hv; rfl) hfit, ?_, ((Sm.of_below hB).setRow _ _)⟩
        refine ar_shut (hr.set c' i' h1 (b := { m[c'].l[i'] with bytes := A[c'][i'].bytes.take k ++ bs ++ A[c'][i'].bytes.drop (k + bs.length) }) ?_) q3
        refine ⟨hR.held, hR.gen, fun _ => rfl, fun h => by (have h : m[c'].l[i'].made = false := h); rw [hm] at h; simp at h, by simp; omega, hR.lo, hR.hi, fun h => absurd h hh, ?_, hR.wf⟩
        intro x hx
        simp only [List.mem_append] at hx
        rcases hx with (hx | hx) | hx
        · exact hR.byte x (List.mem_of_mem_take hx)
        · exact hb8 x hx
        · exact hR.byte x (List.mem_of_mem_drop hx)
      rw [hlen] at f4
      rcases Nat.lt_or_ge k (szN c') with hlt | hge
      · exact write_core a _ c' i' (szN c') k k g so sn sc _ w _ hAT (cp k (.inl ⟨hlt, rfl⟩)) f4 f7 (by omega) (.inl ⟨hlt, rfl⟩) hkn
      · exact write_core a _ c' i' (szN c') k 0 g so sn sc _ w _ hAT (cp 0 (.inr ⟨by omega, rfl⟩)) f4 f7 (by omega) (.inr ⟨by omega, rfl⟩) hkn

def ReadA (b : List Int) (e : Int) (F : Asr) (w : World) (en : Ending) (w' : World) : Prop :=
  ∃ v, en = .returned (.tuple #[v, .int .i64 e]) ∧ Holds w' (rowA 5 1 v b.length (u8s b) * F) ∧ Sm w w'

theorem readA_calls (a : Nat) (A : List (List ABlk)) (F : Asr) (c i g at_ n : Int) (w : World) (hw : Holds w (Ar a A * F)) :
    Calls Try.prog 50 #[.pointer (some ⟨a, 0, none⟩), hdl c i g, .int .i64 at_, .int .i64 n] w (ReadA (readA A c i g at_ n).b (readA A c i g at_ n).e (Ar a A * F) w) := by
  obtain ⟨m, hr, hw'⟩ := ar_open hw
  unfold readA
  cases h : rightA A c i g with
  | false => exact (read_no a m F w c i g at_ n hr.fit hw' (by rw [right_rel hr]; exact h)).mono fun e w' ⟨k1, k2⟩ => ⟨_, k1, rowA_nil (hw.grow k2), .of_below k2⟩
  | true =>
    obtain ⟨c', i', h1, h2, h3, h4, rfl, rfl, hb, hR, hh, hg, hm⟩ := right_yes hr h
    simp only [hb, Option.getD_some, if_true]
    have hAT := at_any a m F w c' i' hr.fit h1 h3 g (by rw [hR.gen, hg]) hw' (by rw [hR.held]; simpa using hh)
    obtain ⟨-, f4, -, -, f7, -⟩ := arena_facts hr.fit hw' c' i' h1 h3
    have hc4 : c' < 4 := by have := hr.len; omega
    have hlen := hR.bl hm
    have hal := hR.len
    have hsz := (szN_val c' hc4).2.2
    rw [Blk.sl, if_pos hm] at f4
    by_cases hbad : at_ < 0 ∨ n < 0 ∨ (A[c'][i'].bytes.length : Int) < at_ ∨ (A[c'][i'].bytes.length : Int) - at_ < n
    · rw [if_pos hbad]
      exact (read_arg a _ c' i' _ g at_ n _ w hAT f4 f7 (by omega) (by omega)).mono fun e w' ⟨k1, k2⟩ => ⟨_, k1, rowA_nil (hw.grow k2), .of_below k2⟩
    · rw [if_neg hbad]
      obtain ⟨k, rfl⟩ := Int.eq_ofNat_of_zero_le (show 0 ≤ at_ by omega)
      obtain ⟨n', rfl⟩ := Int.eq_ofNat_of_zero_le (show 0 ≤ n by omega)
      obtain ⟨F', q1, -⟩ := arena_clear c' i' h1 h3 hm hw'
      have hcell : ∀ j, j < szN c' → w.cell? ⟨m[c'].l[i'].loc, j, none⟩ = some (.int .u8 (A[c'][i'].bytes.getD j 0)) := by
        intro j hj
        rw [q1.cell, hR.yes hm]
        simp [List.getD, hal, hj]
      rw [hlen] at f4
      refine (read_core a _ c' i' (szN c') k n' g _ w (Ar a A * F) A[c'][i'].bytes hAT hw hcell hal q1.lt f4 f7 (by omega) (by omega) (by omega)).mono fun e w' ⟨v, k1, k2, k3⟩ => ⟨v, k1, ?_, k3⟩
      simp only [Int.toNat_natCast]
      have : (List.take n' (List.drop k A[c'][i'].bytes)).length = n' := by simp; omega
      rw [this]; exact k2

theorem live_rel {sz : Nat} {l : List Blk} {la : List ABlk} (h : RepL sz l la) : liveIn l = la.countP fun b => decide (0 < b.held) := by
  unfold liveIn
  obtain ⟨h1, -, h3⟩ := h
  induction l generalizing la with
  | nil => cases la with
    | nil => rfl
    | cons => simp at h1
  | cons x l ih =>
    cases la with
    | nil => simp at h1
    | cons y la =>
      have h0 := h3 0 (by simp) (by simp)
      simp only [List.getElem_cons_zero] at h0
      have := ih (la := la) (by simpa using h1) fun i hi hi' => by have := h3 (i + 1) (by simpa using hi) (by simpa using hi'); simp only [List.getElem_cons_succ] at this; exact this
      simp only [List.countP_cons, h0.held, this]
theorem liveA_calls (a : Nat) (A : List (List ABlk)) (F : Asr) (w : World) (c : Int) (hw : Holds w (Ar a A * F)) :
    Calls Try.prog 15 #[.pointer (some ⟨a, 0, none⟩), .int .i64 c] w fun e w' => e = .returned (.int .i64 (liveA A c : Nat)) ∧ Below w.heap.size w w' := by
  obtain ⟨m, hr, hw'⟩ := ar_open hw
  have := live_calls a m F w c hr.fit hw'
  have e : liveOf m c = liveA A c := by
    unfold liveOf liveA
    split
    · rcases Nat.lt_or_ge c.toNat 4 with h | h
      · have h1 : c.toNat < m.length := by have := hr.len; omega
        have h2 : c.toNat < A.length := by have := hr.alen; omega
        rw [List.getElem?_eq_getElem h1]
        simp only [live_rel (hr.at_ _ h1 h2)]
        simp [List.getD, h2]
      · rw [List.getElem?_eq_none (by have := hr.len; omega)]
        simp [List.getD, List.getElem?_eq_none (show A.length ≤ c.toNat by have := hr.alen; omega)]
    · rfl
  rw [← e]; exact this
#print axioms writeA_calls
#print axioms readA_calls
#print axioms liveA_calls
end Go.Proofs.Ytefcinifaaablaa.Slab
