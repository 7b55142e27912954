/-
  SlabBack: the arena of two blocks a class, plainly; the walk.
-/
import Derived.Test.YtbmcfmcolhgibaaSlabFl
import Derived.Test.YtbmcfmcolhgibaaLawSlabGens
import Derived.Laws.BytesArg
namespace Go.Proofs.Ytbmcfmcolhgibaa.Slab
open Go.RowKit Go.Sep
set_option maxRecDepth 100000
set_option linter.unusedVariables false
set_option linter.unusedSimpArgs false

def A2 : List (List ABlk) := newA (X4 2 2 2 2)
def two (c : Nat) (x y : ABlk) : List (List ABlk) := A2.set c [x, y]
section
variable {c : Nat} (hc : c < 4)
include hc
theorem two_get (x y : ABlk) : (two c x y).getD c [] = [x, y] := by
  have : A2.length = 4 := by simp [A2, newA]
  simp [two, List.getD, this, hc]
theorem two_blk0 (x y : ABlk) : blkA (two c x y) c 0 = some x := by
  have : A2.length = 4 := by simp [A2, newA]
  simp [blkA, two, this, hc]
theorem two_blk1 (x y : ABlk) : blkA (two c x y) c 1 = some y := by
  have : A2.length = 4 := by simp [A2, newA]
  simp [blkA, two, this, hc]
theorem two_set0 (x y z : ABlk) : setA (two c x y) c 0 z = two c z y := by
  have : A2.length = 4 := by simp [A2, newA]
  unfold setA two
  apply List.ext_getElem?
  intro j
  rw [List.getElem?_modify, List.getElem?_set, List.getElem?_set]
  by_cases e : c = j
  · subst e; simp [this, hc]
  · simp [e]
theorem two_set1 (x y z : ABlk) : setA (two c x y) c 1 z = two c x z := by
  have : A2.length = 4 := by simp [A2, newA]
  unfold setA two
  apply List.ext_getElem?
  intro j
  rw [List.getElem?_modify, List.getElem?_set, List.getElem?_set]
  by_cases e : c = j
  · subst e; simp [this, hc]
  · simp [e]
theorem two_start : newA (X4 2 2 2 2) = two c ⟨0, 0, zeros (szN c)⟩ ⟨0, 0, zeros (szN c)⟩ := by
  have : A2.length = 4 := by simp [A2, newA]
  show A2 = _
  unfold two
  apply List.ext_getElem?
  intro j
  rw [List.getElem?_set]
  by_cases e : c = j
  · subst e
    have hx : X4 2 2 2 2 c = 2 := by unfold X4; split <;> (try split) <;> (try split) <;> rfl
    rw [if_pos rfl, if_pos (by omega)]
    simp [A2, newA, hc, hx, List.replicate]
  · rw [if_neg e]
theorem two_alloc0 (n : Int) (h0 : 0 ≤ n) (h1 : n ≤ 4096) (hn : clsFor n = c) (x y : ABlk) (hx : x.held = 0) : allocA (two c x y) n = ⟨two c ⟨1, wrap64 (x.gen + 1), x.bytes⟩ y, (c, 0, wrap64 (x.gen + 1)), 0⟩ := by
  have hf : freeA [x, y] = 0 := by simp [freeA, List.findIdx_cons, hx]
  unfold allocA
  rw [if_neg (by omega)]
  simp only [hn, Int.toNat_natCast, two_get hc, hf]
  rw [if_neg (by simp)]
  have e : ((0 : Nat) : Int) = 0 := rfl
  simp only [List.getD_cons_zero, e, two_set0 hc]
theorem two_alloc1 (n : Int) (h0 : 0 ≤ n) (h1 : n ≤ 4096) (hn : clsFor n = c) (x y : ABlk) (hx : x.held ≠ 0) (hy : y.held = 0) : allocA (two c x y) n = ⟨two c x ⟨1, wrap64 (y.gen + 1), y.bytes⟩, (c, 1, wrap64 (y.gen + 1)), 0⟩ := by
  have hx' : (x.held == 0) = false := by simpa using hx
  have hf : freeA [x, y] = 1 := by simp [freeA, List.findIdx_cons, hx', hy]
  unfold allocA
  rw [if_neg (by omega)]
  simp only [hn, Int.toNat_natCast, two_get hc, hf]
  rw [if_neg (by simp)]
  have e : ((1 : Nat) : Int) = 1 := rfl
  simp only [List.getD_cons_succ, List.getD_cons_zero, e, two_set1 hc]
theorem two_hold0 (x y : ABlk) (h1 : x.held ≠ 0) (h2 : x.held ≠ 1048576) : holdA (two c x y) c 0 x.gen = ⟨two c { x with held := x.held + 1 } y, 0⟩ := by
  unfold holdA rightA; rw [two_blk0 hc]; simp [h1, h2, two_set0 hc]
theorem two_stale0 (x y : ABlk) (g : Int) (h : x.held = 0 ∨ x.gen ≠ g) : rightA (two c x y) c 0 g = false := by
  unfold rightA; rw [two_blk0 hc]; simp; rcases h with h | h
  · intro h'; exact absurd h h'
  · intro _; exact h
theorem two_drop0 (x y : ABlk) (h1 : x.held ≠ 0) : dropA (two c x y) c 0 x.gen = ⟨two c (dropB x) y, 0⟩ := by
  unfold dropA rightA; rw [two_blk0 hc]; simp [h1, two_set0 hc]
theorem two_held0 (x y : ABlk) (h1 : x.held ≠ 0) : heldA (two c x y) c 0 x.gen = x.held := by
  unfold heldA rightA; rw [two_blk0 hc]; simp [h1]
theorem two_write0 (x y : ABlk) (h1 : x.held ≠ 0) (at_ : Int) (bs : List Int) : writeA (two c x y) c 0 x.gen at_ bs =
    if at_ < 0 ∨ (x.bytes.length : Int) < at_ ∨ (x.bytes.length : Int) - at_ < bs.length then ⟨two c x y, 2⟩ else ⟨two c { x with bytes := x.bytes.take at_.toNat ++ bs ++ x.bytes.drop (at_.toNat + bs.length) } y, 0⟩ := by
  unfold writeA rightA; rw [two_blk0 hc]; simp [h1, two_set0 hc]
theorem two_read0 (x y : ABlk) (h1 : x.held ≠ 0) (at_ n : Int) : readA (two c x y) c 0 x.gen at_ n =
    if at_ < 0 ∨ n < 0 ∨ (x.bytes.length : Int) < at_ ∨ (x.bytes.length : Int) - at_ < n then ⟨[], 2⟩ else ⟨(x.bytes.drop at_.toNat).take n.toNat, 0⟩ := by
  unfold readA rightA; rw [two_blk0 hc]; simp [h1]
theorem two_read1 (x y : ABlk) (h1 : y.held ≠ 0) (at_ n : Int) : readA (two c x y) c 1 y.gen at_ n =
    if at_ < 0 ∨ n < 0 ∨ (y.bytes.length : Int) < at_ ∨ (y.bytes.length : Int) - at_ < n then ⟨[], 2⟩ else ⟨(y.bytes.drop at_.toNat).take n.toNat, 0⟩ := by
  unfold readA rightA; rw [two_blk1 hc]; simp [h1]
end
theorem Src.of_row {w : World} {v : Value} {n : Nat} {bs : List Int} {F : Asr} (h : Holds w (rowA 5 1 v n (u8s bs) * F)) : ∃ so sc, v = .slice so n sc ∧ Src w so n bs := by
  obtain ⟨hl, hc⟩ := rowA_cases h
  simp [u8s] at hl
  rcases hc with ⟨rfl, rfl, -⟩ | ⟨g, cap, cur, rfl, h1, h2, h3, h4, h5⟩
  · exact ⟨none, 0, rfl, hl, fun h => by omega⟩
  · refine ⟨_, cap, rfl, hl, fun _ => ⟨g, 0, rfl, h5.lt, fun j hj => ?_⟩⟩
    rw [Nat.zero_add, h5.cell, ← Array.getElem?_toList]
    have := congrArg (fun l => l[j]?) h4
    simp only [List.getElem?_take, Nat.mul_one, if_pos hj] at this
    rw [this]
    simp [u8s, List.getD, hl, hj]
theorem Src.conv {w : World} {so : Option Addr} {sn sc : Nat} {bs : List Int} (h : Src w so sn bs) : (convert 49 9 (.slice so sn sc)).run Try.prog w = .ok (.string (strOfNums bs)) w := by
  cases so with
  | none =>
    have hb : bs = [] := by
      have := h.len
      rcases Nat.eq_zero_or_pos sn with h0 | h0
      · exact List.eq_nil_of_length_eq_zero (by omega)
      · obtain ⟨b, o, h1, _⟩ := h.cell h0; simp at h1
    subst hb
    rw [run_convert_bytes_nil w 49 5 Try.underlying49 Try.underlying5 sn sc 9 Try.underlying9]
    rfl
  | some x =>
    have hl : (loadCells x sn).run Try.prog w = .ok (u8s bs).toArray w := by
      have := run_loadCells_list (P := Try.prog) w x (u8s bs) h.load
      have e : (u8s bs).length = sn := by simp [u8s, h.len]
      rwa [e] at this
    rw [run_convert_bytes_string w 49 9 5 _ sn sc Try.underlying49 Try.underlying5 Try.underlying9, run_bytesToString w _ sn sc bs hl, foldl_push_bytes]
    simp [strOfNums, ByteArray.empty, ByteArray.emptyWithCapacity]
    rfl
/-- the bytes of an argument -/
theorem Src.of_arg {w : World} {a : Option Addr} {len cap : Nat} {zs : List Int} (h : IsRow .u8 w a len cap zs) (n : Nat) (hn : n ≤ len) : Src w a n (zs.take n) ∧ ∀ x ∈ zs.take n, 0 ≤ x ∧ x < 256 := by
  have hlen : (zs.take n).length = n := by
    rcases h with ⟨rfl, rfl, rfl, rfl⟩ | ⟨x, rfl, h1, h2, h3, h4, h5⟩
    · simp; omega
    · simp; omega
  refine ⟨⟨hlen, fun hp => ?_⟩, fun z hz => ?_⟩
  · obtain ⟨b, off, rfl, h1, h2, h3, h4, h5⟩ := isrow_at h (by omega)
    refine ⟨b, off, rfl, h3, fun j hj => ?_⟩
    rw [h4 j (by omega)]
    simp [List.getD, hj]
  · have hw : (Lit.int .u8 z).wf = true := by
      rcases h with ⟨rfl, rfl, rfl, rfl⟩ | ⟨x, rfl, h1, h2, h3, h4, h5⟩
      · simp at hz
      · exact h5 z (List.mem_of_mem_take hz)
    simp [Lit.wf, IntKind.min, IntKind.max, IntKind.signed, IntKind.bits] at hw
    omega

structure Plan (c n sz K sn : Nat) (bs : List Int) : Prop where
  esz : szN c = sz
  a0 : allocA (newA (X4 2 2 2 2)) n = ⟨two c ⟨1, 1, zeros sz⟩ ⟨0, 0, zeros sz⟩, (c, 0, 1), 0⟩
  a1 : allocA (two c ⟨1, 1, zeros sz⟩ ⟨0, 0, zeros sz⟩) n = ⟨two c ⟨1, 1, zeros sz⟩ ⟨1, 1, zeros sz⟩, (c, 1, 1), 0⟩
  wbad : sz - K < sn → writeA (two c ⟨1, 1, zeros sz⟩ ⟨1, 1, zeros sz⟩) c 0 1 K bs = ⟨two c ⟨1, 1, zeros sz⟩ ⟨1, 1, zeros sz⟩, 2⟩
  wok : ¬ sz - K < sn → ∃ B : List Int, B.length = sz ∧ writeA (two c ⟨1, 1, zeros sz⟩ ⟨1, 1, zeros sz⟩) c 0 1 K bs = ⟨two c ⟨1, 1, B⟩ ⟨1, 1, zeros sz⟩, 0⟩ ∧
    readA (two c ⟨1, 1, B⟩ ⟨1, 1, zeros sz⟩) c 0 1 K sn = ⟨bs, 0⟩ ∧ readA (two c ⟨1, 1, B⟩ ⟨1, 1, zeros sz⟩) c 1 1 0 sz = ⟨zeros sz, 0⟩ ∧
    holdA (two c ⟨1, 1, B⟩ ⟨1, 1, zeros sz⟩) c 0 1 = ⟨two c ⟨2, 1, B⟩ ⟨1, 1, zeros sz⟩, 0⟩ ∧ dropA (two c ⟨2, 1, B⟩ ⟨1, 1, zeros sz⟩) c 0 1 = ⟨two c ⟨1, 1, B⟩ ⟨1, 1, zeros sz⟩, 0⟩ ∧
    heldA (two c ⟨1, 1, B⟩ ⟨1, 1, zeros sz⟩) c 0 1 = 1 ∧ dropA (two c ⟨1, 1, B⟩ ⟨1, 1, zeros sz⟩) c 0 1 = ⟨two c ⟨0, 1, zeros sz⟩ ⟨1, 1, zeros sz⟩, 0⟩
  d2 : dropA (two c ⟨0, 1, zeros sz⟩ ⟨1, 1, zeros sz⟩) c 0 1 = ⟨two c ⟨0, 1, zeros sz⟩ ⟨1, 1, zeros sz⟩, 15⟩
  h2 : heldA (two c ⟨0, 1, zeros sz⟩ ⟨1, 1, zeros sz⟩) c 0 1 = 0
  a2 : allocA (two c ⟨0, 1, zeros sz⟩ ⟨1, 1, zeros sz⟩) n = ⟨two c ⟨1, 2, zeros sz⟩ ⟨1, 1, zeros sz⟩, (c, 0, 2), 0⟩
  r2 : readA (two c ⟨1, 2, zeros sz⟩ ⟨1, 1, zeros sz⟩) c 0 2 0 sz = ⟨zeros sz, 0⟩
  s2 : holdA (two c ⟨1, 2, zeros sz⟩ ⟨1, 1, zeros sz⟩) c 0 1 = ⟨two c ⟨1, 2, zeros sz⟩ ⟨1, 1, zeros sz⟩, 15⟩

theorem plan (c n K sn : Nat) (bs : List Int) (hc : c < 4) (hn : n ≤ 4096) (hcn : clsFor n = c) (hK : K < szN c) (hbs : bs.length = sn) : Plan c n (szN c) K sn bs := by
  have w1 : wrap64 (0 + 1) = 1 := by unfold wrap64; omega
  have w2 : wrap64 (1 + 1) = 2 := by unfold wrap64; omega
  have hz : (zeros (szN c)).length = szN c := by simp [zeros]
  have hrd : ∀ B : List Int, B.length = szN c → (B.drop (0 : Int).toNat).take ((szN c : Nat) : Int).toNat = B := by
    intro B hB; simp; rw [← hB, List.take_length]
  refine ⟨rfl, ?_, ?_, ?_, ?_, ?_, ?_, ?_, ?_, ?_⟩
  · rw [two_start hc, two_alloc0 hc n (by omega) (by omega) hcn _ _ rfl, w1]
  · rw [two_alloc1 hc n (by omega) (by omega) hcn _ _ (by simp) rfl, w1]
  · intro h
    have := two_write0 hc ⟨1, 1, zeros (szN c)⟩ ⟨1, 1, zeros (szN c)⟩ (by simp) K bs
    rw [this, if_pos (by simp only [hz]; omega)]
  · intro h
    refine ⟨(zeros (szN c)).take K ++ bs ++ (zeros (szN c)).drop (K + bs.length), by simp [hz]; omega, ?_, ?_, ?_, ?_, ?_, ?_, ?_⟩
    · have := two_write0 hc ⟨1, 1, zeros (szN c)⟩ ⟨1, 1, zeros (szN c)⟩ (by simp) K bs
      rw [this, if_neg (by simp only [hz]; omega)]; simp
    · have := two_read0 hc ⟨1, 1, (zeros (szN c)).take K ++ bs ++ (zeros (szN c)).drop (K + bs.length)⟩ ⟨1, 1, zeros (szN c)⟩ (by simp) K sn
      rw [this, if_neg (by simp [hz]; omega)]
      simp only [Int.toNat_natCast, List.append_assoc]
      rw [List.drop_append_of_le_length (by simp [hz]; omega), List.drop_of_length_le (by simp [hz]; omega), List.nil_append, List.take_append_of_le_length (by omega), List.take_of_length_le (by omega)]
    · have := two_read1 hc ⟨1, 1, (zeros (szN c)).take K ++ bs ++ (zeros (szN c)).drop (K + bs.length)⟩ ⟨1, 1, zeros (szN c)⟩ (by simp) 0 (szN c)
      rw [this, if_neg (by simp [hz]), hrd _ hz]
    · exact two_hold0 hc ⟨1, 1, _⟩ ⟨1, 1, zeros (szN c)⟩ (by simp) (by simp)
    · have := two_drop0 hc ⟨2, 1, (zeros (szN c)).take K ++ bs ++ (zeros (szN c)).drop (K + bs.length)⟩ ⟨1, 1, zeros (szN c)⟩ (by simp)
      simpa [dropB] using this
    · exact two_held0 hc ⟨1, 1, _⟩ ⟨1, 1, zeros (szN c)⟩ (by simp)
    · have := two_drop0 hc ⟨1, 1, (zeros (szN c)).take K ++ bs ++ (zeros (szN c)).drop (K + bs.length)⟩ ⟨1, 1, zeros (szN c)⟩ (by simp)
      rw [this]
      have hl : ((zeros (szN c)).take K ++ bs ++ (zeros (szN c)).drop (K + bs.length)).length = szN c := by simp [hz]; omega
      simp only [dropB, if_true, hl]; rfl
  · unfold dropA; rw [two_stale0 hc _ _ _ (.inl rfl)]; rfl
  · unfold heldA; rw [two_stale0 hc _ _ _ (.inl rfl)]; rfl
  · rw [two_alloc0 hc n (by omega) (by omega) hcn _ _ rfl, w2]
  · have := two_read0 hc ⟨1, 2, zeros (szN c)⟩ ⟨1, 1, zeros (szN c)⟩ (by simp) 0 (szN c)
    rw [this, if_neg (by simp [hz]), hrd _ hz]
  · unfold holdA; rw [two_stale0 hc _ _ _ (.inr (by simp))]; rfl
#print axioms plan
theorem zget (n j : Nat) : (zeros n).getD j 0 = 0 := by
  unfold zeros; simp only [List.getD, List.getElem?_replicate]; split <;> rfl
theorem clsFor_le (n : Nat) (c : Nat) (hn : n ≤ 4096) (h : clsFor n = c) (hc : c < 4) : n ≤ szN c := by
  have : c = 0 ∨ c = 1 ∨ c = 2 ∨ c = 3 := by omega
  unfold clsFor at h
  rcases this with rfl | rfl | rfl | rfl <;> simp [szN, szOf] at * <;> (repeat' split at h) <;> omega

def Fr (w : World) (c hb kb : Nat) : Asr := pts kb (.cells #[.int .i64 c, .int .i64 1, .int .i64 1] 36 (0, 0)) * (pts hb (.cells #[.int .i64 c, .int .i64 (0 : Int), .int .i64 1] 36 (0, 0)) * all w)
theorem Fr.h {w w' : World} {c hb kb : Nat} {X : Asr} (h : Holds w' (X * Fr w c hb kb)) : w'.cell? ⟨hb, 0, none⟩ = some (.int .i64 c) ∧ w'.cell? ⟨hb, 1, none⟩ = some (.int .i64 0) ∧ w'.cell? ⟨hb, 2, none⟩ = some (.int .i64 1) ∧ hb < w'.heap.size := by
  have hp : Holds w' (pts hb (.cells #[.int .i64 c, .int .i64 (0 : Int), .int .i64 1] 36 (0, 0)) * (X * (pts kb (.cells #[.int .i64 c, .int .i64 1, .int .i64 1] 36 (0, 0)) * all w))) := h.eqv (by unfold Fr; ac_rfl)
  exact ⟨hp.cell 0, hp.cell 1, hp.cell 2, hp.lt⟩
theorem Fr.k {w w' : World} {c hb kb : Nat} {X : Asr} (h : Holds w' (X * Fr w c hb kb)) : w'.cell? ⟨kb, 0, none⟩ = some (.int .i64 c) ∧ w'.cell? ⟨kb, 1, none⟩ = some (.int .i64 1) ∧ w'.cell? ⟨kb, 2, none⟩ = some (.int .i64 1) ∧ kb < w'.heap.size := by
  have hp : Holds w' (pts kb (.cells #[.int .i64 c, .int .i64 1, .int .i64 1] 36 (0, 0)) * (X * (pts hb (.cells #[.int .i64 c, .int .i64 (0 : Int), .int .i64 1] 36 (0, 0)) * all w))) := h.eqv (by unfold Fr; ac_rfl)
  exact ⟨hp.cell 0, hp.cell 1, hp.cell 2, hp.lt⟩
theorem Fr.bel {w w' : World} {c hb kb : Nat} {X : Asr} (h : Holds w' (X * Fr w c hb kb)) (s : Sm w w') : Below w.heap.size w w' :=
  Holds.below (h.eqv (by unfold Fr; ac_rfl : _ = (X * (pts kb (.cells #[.int .i64 c, .int .i64 1, .int .i64 1] 36 (0, 0)) * pts hb (.cells #[.int .i64 c, .int .i64 (0 : Int), .int .i64 1] 36 (0, 0)))) * all w)) s

set_option maxHeartbeats 8000000 in
theorem back_walk (n at_ : Int) (ba : Option Addr) (len cap : Nat) (zs : List Int) (w : World) (hrow : IsRow .u8 w ba len cap zs) :
    Calls Try.prog 8 #[.int .i64 n, .int .i64 at_, .slice ba len cap] w fun e w' => e = .returned (.bool true) ∧ Below w.heap.size w w' := by
  obtain ⟨N, hN, hN2, -⟩ := and4095 n
  obtain ⟨T, hT, hT2, -⟩ := and4095 at_
  obtain ⟨c, hcn, hc4⟩ := clsFor_nat N (by omega)
  obtain ⟨sz, hsz⟩ : ∃ sz, szN c = sz := ⟨_, rfl⟩
  obtain ⟨z1, z2, z3⟩ := szN_val c hc4
  have hNsz := clsFor_le N c (by omega) hcn hc4
  rw [hsz] at z1 z2 z3 hNsz
  have hK : (T : Int) % (sz : Int) = ((T % sz : Nat) : Int) := by simp
  have hKlt : T % sz < sz := Nat.mod_lt _ z2
  have PL := fun sn bs h => plan c N (T % sz) sn bs hc4 (by omega) hcn (by omega) h
  rw [hsz] at PL
  have NW := Lib.hid (newA_calls 2 2 2 2 (all w) w (holds_all w) (by unfold newBad; rw [if_neg, if_neg] <;> (rintro ⟨j, h1, h2⟩; unfold X4 at h2; split at h2 <;> (try split at h2) <;> (try split at h2) <;> omega)))
  have PL' := Lib.hid PL
  have SZ := Lib.hid (fun w => sizes_calls c w)
  rw [z1] at SZ
  generalize hKe : T % sz = K at *
  have hlen : ∃ (so : Option Addr) (sn : Nat) (bs : List Int), Src w so sn bs ∧ (∀ x ∈ bs, 0 ≤ x ∧ x < 256) ∧ bs.length = sn ∧ sn ≤ 500 ∧ ((500 < len ∧ so = ba ∧ sn = 500 ∧ ∃ b o, ba = some ⟨b, o, none⟩ ∧ 500 ≤ cap) ∨ (len ≤ 500 ∧ so = ba ∧ sn = len)) := by
    by_cases h : 500 < len
    · obtain ⟨b, o, rfl, h1, _⟩ := isrow_at hrow (by omega)
      obtain ⟨s1, s2⟩ := Src.of_arg hrow 500 (by omega)
      exact ⟨_, 500, _, s1, s2, s1.len, by omega, .inl ⟨h, rfl, rfl, b, o, rfl, by omega⟩⟩
    · obtain ⟨s1, s2⟩ := Src.of_arg hrow len (by omega)
      exact ⟨_, len, _, s1, s2, s1.len, by omega, .inr ⟨by omega, rfl, rfl⟩⟩
  obtain ⟨so, sn, bs, hsrc, hb8, hbl, hsn, hways⟩ := hlen
  have SRC := Lib.hid hsrc
  have B8 := Lib.hid hb8
  have BL := Lib.hid hbl
  clear hrow hsrc hb8 hbl hcn hsz PL hKe
  -- the two ways meet: the slice has 'sn' bytes
  obtain ⟨sz1, hsz1⟩ : ∃ x : Int, x = (sz : Int) := ⟨_, rfl⟩
  have PLN := PL'.out sn bs BL.out
  have esz := PLN.esz
  have nb : decide ((sz : Int) < (N : Int)) = false := by simp; omega
  have hKm : Int.tmod (T : Int) (sz : Int) = (K : Int) := by rw [Int.tmod_eq_emod_of_nonneg (by omega)]; exact hK
  have hKw : IntKind.i64.wrap ((sz : Int) - (K : Int)) = (sz : Int) - (K : Int) := IntWalk.i64_in _ (by omega)
  have szp : (0 : Int) < (sz : Int) := by omega
  have szne : ((sz : Int) == 0) = false := by simp; omega
  have PN := Lib.hid PLN
  clear hK PLN PL' esz
  have AL0 := Lib.hid (fun a F w h => PN.out.a0 ▸ allocA_calls a (newA (X4 2 2 2 2)) F N w h)
  have AL1 := Lib.hid (fun a F w h => PN.out.a1 ▸ allocA_calls a (two c ⟨1, 1, zeros sz⟩ ⟨0, 0, zeros sz⟩) F N w h)
  rcases hways with ⟨hw1, rfl, hs5, b, o, rfl, hcap⟩ | ⟨hw1, rfl, rfl⟩
  · have g1 : decide (500 < (len : Int)) = true := by simp; omega
    have g2 : (500 : Int) ≤ (cap : Int) := by omega
    go_enter Try.func8, Try.ntmps8
    go_wp2_with fail
    rw [← hs5]
    clear hs5
    clear g1 g2 hcap hw1
    refine (NW.out).mono ?_
    rintro e w1 ⟨a, rfl, h1, s1⟩
    have H1 := Lib.hid h1
    have S1 := Lib.hid s1
    clear h1 s1
    go_wp2_with fail
    refine (AL0.out _ _ _ H1.out).mono ?_
    rintro e w2 ⟨rfl, h2, s2⟩
    have H2 := Lib.hid h2
    have S2 := Lib.hid (S1.out.trans s2)
    clear h2 s2 H1 S1 AL0 NW
    simp only [hdlV, hdl]
    have HW2 := Lib.hid ((H2.out.alloc (.cells #[.int .i64 c, .int .i64 (0 : Int), .int .i64 1] 36)).eqv (star_left_comm _ _ _))
    go_wp2_with fail
    refine (AL1.out _ _ _ HW2.out).mono ?_
    rintro e w3 ⟨rfl, h3, s3⟩
    have H3 := Lib.hid h3
    have S3 : Hid (Sm w w3) := (S2.out.alloc _).trans s3
    clear h3 s3 H2 S2 AL1 HW2
    simp only [hdlV, hdl]
    have hp := H3.out.eqv (star_left_comm _ _ _)
    have q0 := hp.cell 0
    have q1 := hp.cell 1
    have q2 := hp.cell 2
    have ql := hp.lt
    simp only [List.getElem?_toArray, List.getElem?_cons_zero, List.getElem?_cons_succ] at q0 q1 q2
    have HW3 : Hid (Holds (w3.alloc (.cells #[.int .i64 c, .int .i64 1, .int .i64 1] 36)) (Ar a (two c ⟨1, 1, zeros sz⟩ ⟨1, 1, zeros sz⟩) * Fr w c w2.heap.size w3.heap.size)) := ((H3.out.alloc (.cells #[.int .i64 c, .int .i64 1, .int .i64 1] 36)).eqv (star_left_comm _ _ _))
    have S3' : Hid (Sm w (w3.alloc (.cells #[.int .i64 c, .int .i64 1, .int .i64 1] 36))) := S3.out.alloc _
    clear hp
    go_wp2_with fail
    refine (SZ.out _).mono ?_
    rintro e w4 ⟨rfl, rfl⟩
    by_cases hbad : sz - K < sn
    · have t1 : decide ((sz : Int) - (K : Int) < (sn : Int)) = true := by simp; omega
      have WR := Lib.hid (PN.out.wbad hbad ▸ writeA_calls a _ _ c 0 1 K _ sn cap bs _ HW3.out (SRC.out.grow (Fr.bel HW3.out S3'.out)) B8.out)
      go_wp2_with fail
      refine (WR.out).mono ?_
      rintro e w5 ⟨rfl, h5, s5⟩
      have H5 := Lib.hid h5
      have S5 := Lib.hid (S3'.out.trans s5)
      clear h5 s5
      go_wp2_with fail
      go_ret
      exact ⟨rfl, Fr.bel H5.out S5.out⟩
    · have t1 : decide ((sz : Int) - (K : Int) < (sn : Int)) = false := by simp; omega
      obtain ⟨B, hBl, WO0, RX0, RY0, HO0, D10, HE0, D20⟩ := PN.out.wok hbad
      have WR := Lib.hid (WO0 ▸ writeA_calls a _ _ c 0 1 K _ sn cap bs _ HW3.out (SRC.out.grow (Fr.bel HW3.out S3'.out)) B8.out)
      have RX := Lib.hid RX0
      have RY := Lib.hid RY0
      have HO := Lib.hid HO0
      have D1 := Lib.hid D10
      have HE := Lib.hid HE0
      have D2 := Lib.hid D20
      clear WO0 RX0 RY0 HO0 D10 HE0 D20
      go_wp2_with fail
      refine (WR.out).mono ?_
      rintro e w5 ⟨rfl, h5, s5⟩
      have H5 := Lib.hid h5
      have S5 := Lib.hid (S3'.out.trans s5)
      obtain ⟨q0', q1', q2', ql'⟩ := Fr.h h5
      clear h5 s5 q0 q1 q2 ql WR HW3 S3' H3 S3
      have RD := Lib.hid (RX.out ▸ readA_calls a _ _ c 0 1 K sn w5 H5.out)
      go_wp2_with fail
      refine (RD.out).mono ?_
      rintro e w6 ⟨vx, rfl, h6, s6⟩
      rw [BL.out] at h6
      obtain ⟨xo, xc, rfl, hsx⟩ := Src.of_row h6
      have H6 := Lib.hid (h6.eqv (star_left_comm _ _ _))
      have S6 := Lib.hid (S5.out.trans s6)
      have SX := Lib.hid hsx
      obtain ⟨p0, p1, p2, pl⟩ := Fr.k (h6.eqv (star_assoc _ _ _).symm)
      clear h6 s6 hsx q0' q1' q2' ql' RD H5 S5
      have RD := Lib.hid (RY.out ▸ readA_calls a _ _ c 1 1 0 sz w6 H6.out)
      go_wp2_with fail
      refine (RD.out).mono ?_
      rintro e w7 ⟨vy, rfl, h7, s7⟩
      rw [show (zeros sz).length = sz by simp [zeros]] at h7
      obtain ⟨yo, yc, rfl, hsy⟩ := Src.of_row h7
      have h7' : Holds w7 (Ar a (two c ⟨1, 1, B⟩ ⟨1, 1, zeros sz⟩) * (rowA 5 1 (.slice xo sn xc) sn (u8s bs) * rowA 5 1 (.slice yo sz yc) sz (u8s (zeros sz)) * Fr w c w2.heap.size w3.heap.size)) := h7.eqv (by ac_rfl)
      have H7 := Lib.hid h7'
      have S7 := Lib.hid (S6.out.trans s7)
      obtain ⟨q0, q1, q2, ql⟩ := Fr.h (h7'.eqv (star_assoc _ _ _).symm)
      have hsx7 : Src w7 xo sn bs := (Src.of_row (h7.eqv (by ac_rfl : _ = rowA 5 1 (.slice xo sn xc) sn (u8s bs) * (Ar a (two c ⟨1, 1, B⟩ ⟨1, 1, zeros sz⟩) * (rowA 5 1 (.slice yo sz yc) sz (u8s (zeros sz)) * Fr w c w2.heap.size w3.heap.size)))) |> fun ⟨so, sc, e, h⟩ => by simp at e; rw [e.1]; exact h)
      have hsb7 : Src w7 _ sn bs := SRC.out.grow (Fr.bel (h7'.eqv (star_assoc _ _ _).symm) S7.out)
      have cx := hsx7.conv (sc := xc)
      have cb := hsb7.conv (sc := cap)
      have SY := Lib.hid hsy
      clear h7 h7' s7 hsx7 hsb7 hsy p0 p1 p2 pl RD H6 S6 SX
      go_wp2_with fail
      obtain ⟨yb, yof, rfl, hylt, hyc⟩ := SY.out.cell z2
      have HYC := Lib.hid hyc
      clear cx cb hyc
      go_loop [15] (fun i => ∃ j : Nat, j ≤ sz ∧ i = .int .i64 j) (fun i => sz - (intOf i).toNat)
      case atStart => exact ⟨0, Nat.zero_le _, rfl⟩
      case round =>
        obtain ⟨j, hj, rfl⟩ := hrel
        by_cases hjl : j < sz
        · have cj := HYC.out j hjl
          rw [zget] at cj
          have j0 : (0 : Int) ≤ (j : Int) := by omega
          have j1 : (j : Int) < (sz : Int) := by omega
          go_wp2_with fail
          go_round
          case rel => exact ⟨j + 1, by omega, by go_num⟩
          case measure => simp [intOf]; omega
        · obtain rfl : sz = j := by omega
          have HC := Lib.hid (HO.out ▸ holdA_calls a _ _ c 0 1 w7 H7.out)
          go_wp2_with fail
          refine (HC.out).mono ?_
          rintro e w8 ⟨rfl, h8, s8⟩
          have H8 := Lib.hid h8
          have S8 := Lib.hid (S7.out.trans s8)
          clear q0 q1 q2 ql HC H7 S7 h8 s8
          obtain ⟨q0, q1, q2, ql⟩ := Fr.h (H8.out.eqv (star_assoc _ _ _).symm)
          have HC := Lib.hid (D1.out ▸ dropA_calls a _ _ c 0 1 w8 H8.out)
          go_wp2_with fail
          refine (HC.out).mono ?_
          rintro e w9 ⟨rfl, h9, s9⟩
          have H9 := Lib.hid h9
          have S9 := Lib.hid (S8.out.trans s9)
          clear q0 q1 q2 ql HC H8 S8 h9 s9
          obtain ⟨q0, q1, q2, ql⟩ := Fr.h (H9.out.eqv (star_assoc _ _ _).symm)
          have HC := Lib.hid (HE.out ▸ heldA_calls a _ _ c 0 1 w9 H9.out)
          go_wp2_with fail
          refine (HC.out).mono ?_
          rintro e w10 ⟨rfl, hb10⟩
          have H10 := Lib.hid (H9.out.grow hb10)
          have S10 := Lib.hid (S9.out.grow hb10)
          clear q0 q1 q2 ql HC H9 S9 hb10
          obtain ⟨q0, q1, q2, ql⟩ := Fr.h (H10.out.eqv (star_assoc _ _ _).symm)
          have HC := Lib.hid (D2.out ▸ dropA_calls a _ _ c 0 1 w10 H10.out)
          go_wp2_with fail
          refine (HC.out).mono ?_
          rintro e w11 ⟨rfl, h11, s11⟩
          have H11 := Lib.hid h11
          have S11 := Lib.hid (S10.out.trans s11)
          clear q0 q1 q2 ql HC H10 S10 h11 s11
          obtain ⟨q0, q1, q2, ql⟩ := Fr.h (H11.out.eqv (star_assoc _ _ _).symm)
          have HC := Lib.hid (PN.out.d2 ▸ dropA_calls a _ _ c 0 1 w11 H11.out)
          go_wp2_with fail
          refine (HC.out).mono ?_
          rintro e w12 ⟨rfl, h12, s12⟩
          have H12 := Lib.hid h12
          have S12 := Lib.hid (S11.out.trans s12)
          clear q0 q1 q2 ql HC H11 S11 h12 s12
          obtain ⟨q0, q1, q2, ql⟩ := Fr.h (H12.out.eqv (star_assoc _ _ _).symm)
          have HC := Lib.hid (PN.out.h2 ▸ heldA_calls a _ _ c 0 1 w12 H12.out)
          go_wp2_with fail
          refine (HC.out).mono ?_
          rintro e w13 ⟨rfl, hb13⟩
          have H13 := Lib.hid (H12.out.grow hb13)
          have S13 := Lib.hid (S12.out.grow hb13)
          clear q0 q1 q2 ql HC H12 S12 hb13
          obtain ⟨q0, q1, q2, ql⟩ := Fr.h (H13.out.eqv (star_assoc _ _ _).symm)
          have HC := Lib.hid (PN.out.a2 ▸ allocA_calls a _ _ N w13 H13.out)
          go_wp2_with fail
          refine (HC.out).mono ?_
          rintro e w14 ⟨rfl, h14, s14⟩
          simp only [hdlV, hdl]
          have H14 := Lib.hid ((h14.alloc (.cells #[.int .i64 c, .int .i64 (0 : Int), .int .i64 2] 36)).eqv (star_left_comm _ _ _))
          have S14 : Hid (Sm w (w14.alloc (.cells #[.int .i64 c, .int .i64 (0 : Int), .int .i64 2] 36))) := (S13.out.trans s14).alloc _
          clear q0 q1 q2 ql HC H13 S13 h14 s14
          have HC := Lib.hid (PN.out.r2 ▸ readA_calls a _ _ c 0 2 0 sz _ H14.out)
          go_wp2_with fail
          refine (HC.out).mono ?_
          rintro e w15 ⟨vz, rfl, h15, s15⟩
          rw [show (zeros sz).length = sz by simp [zeros]] at h15
          obtain ⟨zo, zc, rfl, hsz⟩ := Src.of_row h15
          obtain ⟨zb, zof, rfl, hzlt, hzc⟩ := hsz.cell z2
          have HZL := Lib.hid hzc
          have H15 := Lib.hid (h15.eqv (star_left_comm _ _ _))
          have S15 := Lib.hid (S14.out.trans s15)
          clear HC H14 S14 h15 s15 hsz hzc
          obtain ⟨q0, q1, q2, ql⟩ := Fr.h (H15.out.eqv (by ac_rfl : _ = (Ar a (two c ⟨1, 2, zeros sz⟩ ⟨1, 1, zeros sz⟩) * (rowA 5 1 (.slice (some ⟨zb, zof, none⟩) sz zc) sz (u8s (zeros sz)) * pts w14.heap.size (.cells #[.int .i64 c, .int .i64 (0 : Int), .int .i64 2] 36 (0, 0)) * (rowA 5 1 (.slice xo sn xc) sn (u8s bs) * rowA 5 1 (.slice (some ⟨yb, yof, none⟩) sz yc) sz (u8s (zeros sz))))) * Fr w c w2.heap.size w3.heap.size))
          have hp : Holds w15 (pts w14.heap.size (.cells #[.int .i64 c, .int .i64 (0 : Int), .int .i64 2] 36 (0, 0)) * (Ar a (two c ⟨1, 2, zeros sz⟩ ⟨1, 1, zeros sz⟩) * (rowA 5 1 (.slice (some ⟨zb, zof, none⟩) sz zc) sz (u8s (zeros sz)) * ((rowA 5 1 (.slice xo sn xc) sn (u8s bs) * rowA 5 1 (.slice (some ⟨yb, yof, none⟩) sz yc) sz (u8s (zeros sz))) * Fr w c w2.heap.size w3.heap.size)))) := H15.out.eqv (by ac_rfl)
          have p0 := hp.cell 0
          have p1 := hp.cell 1
          have p2 := hp.cell 2
          have pl := hp.lt
          simp only [List.getElem?_toArray, List.getElem?_cons_zero, List.getElem?_cons_succ] at p0 p1 p2
          clear hp
          have HC := Lib.hid (PN.out.s2 ▸ holdA_calls a _ _ c 0 1 w15 H15.out)
          go_wp2_with fail
          refine (HC.out).mono ?_
          rintro e w16 ⟨rfl, h16, s16⟩
          have hz16 : Src w16 (some ⟨zb, zof, none⟩) sz (zeros sz) := (Src.of_row (h16.eqv (by ac_rfl : _ = rowA 5 1 (.slice (some ⟨zb, zof, none⟩) sz zc) sz (u8s (zeros sz)) * (Ar a (two c ⟨1, 2, zeros sz⟩ ⟨1, 1, zeros sz⟩) * (pts w14.heap.size (.cells #[.int .i64 c, .int .i64 (0 : Int), .int .i64 2] 36 (0, 0)) * ((rowA 5 1 (.slice xo sn xc) sn (u8s bs) * rowA 5 1 (.slice (some ⟨yb, yof, none⟩) sz yc) sz (u8s (zeros sz))) * Fr w c w2.heap.size w3.heap.size))))) |> fun ⟨so, sc, e, h⟩ => by simp at e; rw [e.1]; exact h)
          obtain ⟨zb', zof', hze, hzlt', hzc'⟩ := hz16.cell z2
          obtain ⟨rfl, rfl⟩ : zb = zb' ∧ zof = zof' := by simpa using hze
          have HZ := Lib.hid hzc'
          have HB := Lib.hid (Fr.bel (h16.eqv (by ac_rfl : _ = (Ar a (two c ⟨1, 2, zeros sz⟩ ⟨1, 1, zeros sz⟩) * (pts w14.heap.size (.cells #[.int .i64 c, .int .i64 (0 : Int), .int .i64 2] 36 (0, 0)) * (rowA 5 1 (.slice (some ⟨zb, zof, none⟩) sz zc) sz (u8s (zeros sz)) * (rowA 5 1 (.slice xo sn xc) sn (u8s bs) * rowA 5 1 (.slice (some ⟨yb, yof, none⟩) sz yc) sz (u8s (zeros sz)))))) * Fr w c w2.heap.size w3.heap.size)) (S15.out.trans s16))
          clear q0 q1 q2 ql p0 p1 p2 pl HC H15 S15 h16 s16 hz16 hze hzc' hzlt HZL
          go_wp2_with fail
          go_loop [18] (fun i => ∃ j : Nat, j ≤ sz ∧ i = .int .i64 j) (fun i => sz - (intOf i).toNat)
          case atStart => exact ⟨0, Nat.zero_le _, rfl⟩
          case round =>
            obtain ⟨j, hj, rfl⟩ := hrel
            by_cases hjl : j < sz
            · have cj := HZ.out j hjl
              rw [zget] at cj
              have j0 : (0 : Int) ≤ (j : Int) := by omega
              have j1 : (j : Int) < (sz : Int) := by omega
              go_wp2_with fail
              go_round
              case rel => exact ⟨j + 1, by omega, by go_num⟩
              case measure => simp [intOf]; omega
            · obtain rfl : sz = j := by omega
              go_wp2_with fail
              go_ret
              exact ⟨rfl, HB.out⟩
  · have g1 : decide (500 < (sn : Int)) = false := by simp; omega
    go_enter Try.func8, Try.ntmps8
    go_wp2_with fail
    refine (NW.out).mono ?_
    rintro e w1 ⟨a, rfl, h1, s1⟩
    have H1 := Lib.hid h1
    have S1 := Lib.hid s1
    clear h1 s1
    go_wp2_with fail
    refine (AL0.out _ _ _ H1.out).mono ?_
    rintro e w2 ⟨rfl, h2, s2⟩
    have H2 := Lib.hid h2
    have S2 := Lib.hid (S1.out.trans s2)
    clear h2 s2 H1 S1 AL0 NW
    simp only [hdlV, hdl]
    have HW2 := Lib.hid ((H2.out.alloc (.cells #[.int .i64 c, .int .i64 (0 : Int), .int .i64 1] 36)).eqv (star_left_comm _ _ _))
    go_wp2_with fail
    refine (AL1.out _ _ _ HW2.out).mono ?_
    rintro e w3 ⟨rfl, h3, s3⟩
    have H3 := Lib.hid h3
    have S3 : Hid (Sm w w3) := (S2.out.alloc _).trans s3
    clear h3 s3 H2 S2 AL1 HW2
    simp only [hdlV, hdl]
    have hp := H3.out.eqv (star_left_comm _ _ _)
    have q0 := hp.cell 0
    have q1 := hp.cell 1
    have q2 := hp.cell 2
    have ql := hp.lt
    simp only [List.getElem?_toArray, List.getElem?_cons_zero, List.getElem?_cons_succ] at q0 q1 q2
    have HW3 : Hid (Holds (w3.alloc (.cells #[.int .i64 c, .int .i64 1, .int .i64 1] 36)) (Ar a (two c ⟨1, 1, zeros sz⟩ ⟨1, 1, zeros sz⟩) * Fr w c w2.heap.size w3.heap.size)) := ((H3.out.alloc (.cells #[.int .i64 c, .int .i64 1, .int .i64 1] 36)).eqv (star_left_comm _ _ _))
    have S3' : Hid (Sm w (w3.alloc (.cells #[.int .i64 c, .int .i64 1, .int .i64 1] 36))) := S3.out.alloc _
    clear hp
    go_wp2_with fail
    refine (SZ.out _).mono ?_
    rintro e w4 ⟨rfl, rfl⟩
    by_cases hbad : sz - K < sn
    · have t1 : decide ((sz : Int) - (K : Int) < (sn : Int)) = true := by simp; omega
      have WR := Lib.hid (PN.out.wbad hbad ▸ writeA_calls a _ _ c 0 1 K _ sn cap bs _ HW3.out (SRC.out.grow (Fr.bel HW3.out S3'.out)) B8.out)
      go_wp2_with fail
      refine (WR.out).mono ?_
      rintro e w5 ⟨rfl, h5, s5⟩
      have H5 := Lib.hid h5
      have S5 := Lib.hid (S3'.out.trans s5)
      clear h5 s5
      go_wp2_with fail
      go_ret
      exact ⟨rfl, Fr.bel H5.out S5.out⟩
    · have t1 : decide ((sz : Int) - (K : Int) < (sn : Int)) = false := by simp; omega
      obtain ⟨B, hBl, WO0, RX0, RY0, HO0, D10, HE0, D20⟩ := PN.out.wok hbad
      have WR := Lib.hid (WO0 ▸ writeA_calls a _ _ c 0 1 K _ sn cap bs _ HW3.out (SRC.out.grow (Fr.bel HW3.out S3'.out)) B8.out)
      have RX := Lib.hid RX0
      have RY := Lib.hid RY0
      have HO := Lib.hid HO0
      have D1 := Lib.hid D10
      have HE := Lib.hid HE0
      have D2 := Lib.hid D20
      clear WO0 RX0 RY0 HO0 D10 HE0 D20
      go_wp2_with fail
      refine (WR.out).mono ?_
      rintro e w5 ⟨rfl, h5, s5⟩
      have H5 := Lib.hid h5
      have S5 := Lib.hid (S3'.out.trans s5)
      obtain ⟨q0', q1', q2', ql'⟩ := Fr.h h5
      clear h5 s5 q0 q1 q2 ql WR HW3 S3' H3 S3
      have RD := Lib.hid (RX.out ▸ readA_calls a _ _ c 0 1 K sn w5 H5.out)
      go_wp2_with fail
      refine (RD.out).mono ?_
      rintro e w6 ⟨vx, rfl, h6, s6⟩
      rw [BL.out] at h6
      obtain ⟨xo, xc, rfl, hsx⟩ := Src.of_row h6
      have H6 := Lib.hid (h6.eqv (star_left_comm _ _ _))
      have S6 := Lib.hid (S5.out.trans s6)
      have SX := Lib.hid hsx
      obtain ⟨p0, p1, p2, pl⟩ := Fr.k (h6.eqv (star_assoc _ _ _).symm)
      clear h6 s6 hsx q0' q1' q2' ql' RD H5 S5
      have RD := Lib.hid (RY.out ▸ readA_calls a _ _ c 1 1 0 sz w6 H6.out)
      go_wp2_with fail
      refine (RD.out).mono ?_
      rintro e w7 ⟨vy, rfl, h7, s7⟩
      rw [show (zeros sz).length = sz by simp [zeros]] at h7
      obtain ⟨yo, yc, rfl, hsy⟩ := Src.of_row h7
      have h7' : Holds w7 (Ar a (two c ⟨1, 1, B⟩ ⟨1, 1, zeros sz⟩) * (rowA 5 1 (.slice xo sn xc) sn (u8s bs) * rowA 5 1 (.slice yo sz yc) sz (u8s (zeros sz)) * Fr w c w2.heap.size w3.heap.size)) := h7.eqv (by ac_rfl)
      have H7 := Lib.hid h7'
      have S7 := Lib.hid (S6.out.trans s7)
      obtain ⟨q0, q1, q2, ql⟩ := Fr.h (h7'.eqv (star_assoc _ _ _).symm)
      have hsx7 : Src w7 xo sn bs := (Src.of_row (h7.eqv (by ac_rfl : _ = rowA 5 1 (.slice xo sn xc) sn (u8s bs) * (Ar a (two c ⟨1, 1, B⟩ ⟨1, 1, zeros sz⟩) * (rowA 5 1 (.slice yo sz yc) sz (u8s (zeros sz)) * Fr w c w2.heap.size w3.heap.size)))) |> fun ⟨so, sc, e, h⟩ => by simp at e; rw [e.1]; exact h)
      have hsb7 : Src w7 _ sn bs := SRC.out.grow (Fr.bel (h7'.eqv (star_assoc _ _ _).symm) S7.out)
      have cx := hsx7.conv (sc := xc)
      have cb := hsb7.conv (sc := cap)
      have SY := Lib.hid hsy
      clear h7 h7' s7 hsx7 hsb7 hsy p0 p1 p2 pl RD H6 S6 SX
      go_wp2_with fail
      obtain ⟨yb, yof, rfl, hylt, hyc⟩ := SY.out.cell z2
      have HYC := Lib.hid hyc
      clear cx cb hyc
      go_loop [15] (fun i => ∃ j : Nat, j ≤ sz ∧ i = .int .i64 j) (fun i => sz - (intOf i).toNat)
      case atStart => exact ⟨0, Nat.zero_le _, rfl⟩
      case round =>
        obtain ⟨j, hj, rfl⟩ := hrel
        by_cases hjl : j < sz
        · have cj := HYC.out j hjl
          rw [zget] at cj
          have j0 : (0 : Int) ≤ (j : Int) := by omega
          have j1 : (j : Int) < (sz : Int) := by omega
          go_wp2_with fail
          go_round
          case rel => exact ⟨j + 1, by omega, by go_num⟩
          case measure => simp [intOf]; omega
        · obtain rfl : sz = j := by omega
          have HC := Lib.hid (HO.out ▸ holdA_calls a _ _ c 0 1 w7 H7.out)
          go_wp2_with fail
          refine (HC.out).mono ?_
          rintro e w8 ⟨rfl, h8, s8⟩
          have H8 := Lib.hid h8
          have S8 := Lib.hid (S7.out.trans s8)
          clear q0 q1 q2 ql HC H7 S7 h8 s8
          obtain ⟨q0, q1, q2, ql⟩ := Fr.h (H8.out.eqv (star_assoc _ _ _).symm)
          have HC := Lib.hid (D1.out ▸ dropA_calls a _ _ c 0 1 w8 H8.out)
          go_wp2_with fail
          refine (HC.out).mono ?_
          rintro e w9 ⟨rfl, h9, s9⟩
          have H9 := Lib.hid h9
          have S9 := Lib.hid (S8.out.trans s9)
          clear q0 q1 q2 ql HC H8 S8 h9 s9
          obtain ⟨q0, q1, q2, ql⟩ := Fr.h (H9.out.eqv (star_assoc _ _ _).symm)
          have HC := Lib.hid (HE.out ▸ heldA_calls a _ _ c 0 1 w9 H9.out)
          go_wp2_with fail
          refine (HC.out).mono ?_
          rintro e w10 ⟨rfl, hb10⟩
          have H10 := Lib.hid (H9.out.grow hb10)
          have S10 := Lib.hid (S9.out.grow hb10)
          clear q0 q1 q2 ql HC H9 S9 hb10
          obtain ⟨q0, q1, q2, ql⟩ := Fr.h (H10.out.eqv (star_assoc _ _ _).symm)
          have HC := Lib.hid (D2.out ▸ dropA_calls a _ _ c 0 1 w10 H10.out)
          go_wp2_with fail
          refine (HC.out).mono ?_
          rintro e w11 ⟨rfl, h11, s11⟩
          have H11 := Lib.hid h11
          have S11 := Lib.hid (S10.out.trans s11)
          clear q0 q1 q2 ql HC H10 S10 h11 s11
          obtain ⟨q0, q1, q2, ql⟩ := Fr.h (H11.out.eqv (star_assoc _ _ _).symm)
          have HC := Lib.hid (PN.out.d2 ▸ dropA_calls a _ _ c 0 1 w11 H11.out)
          go_wp2_with fail
          refine (HC.out).mono ?_
          rintro e w12 ⟨rfl, h12, s12⟩
          have H12 := Lib.hid h12
          have S12 := Lib.hid (S11.out.trans s12)
          clear q0 q1 q2 ql HC H11 S11 h12 s12
          obtain ⟨q0, q1, q2, ql⟩ := Fr.h (H12.out.eqv (star_assoc _ _ _).symm)
          have HC := Lib.hid (PN.out.h2 ▸ heldA_calls a _ _ c 0 1 w12 H12.out)
          go_wp2_with fail
          refine (HC.out).mono ?_
          rintro e w13 ⟨rfl, hb13⟩
          have H13 := Lib.hid (H12.out.grow hb13)
          have S13 := Lib.hid (S12.out.grow hb13)
          clear q0 q1 q2 ql HC H12 S12 hb13
          obtain ⟨q0, q1, q2, ql⟩ := Fr.h (H13.out.eqv (star_assoc _ _ _).symm)
          have HC := Lib.hid (PN.out.a2 ▸ allocA_calls a _ _ N w13 H13.out)
          go_wp2_with fail
          refine (HC.out).mono ?_
          rintro e w14 ⟨rfl, h14, s14⟩
          simp only [hdlV, hdl]
          have H14 := Lib.hid ((h14.alloc (.cells #[.int .i64 c, .int .i64 (0 : Int), .int .i64 2] 36)).eqv (star_left_comm _ _ _))
          have S14 : Hid (Sm w (w14.alloc (.cells #[.int .i64 c, .int .i64 (0 : Int), .int .i64 2] 36))) := (S13.out.trans s14).alloc _
          clear q0 q1 q2 ql HC H13 S13 h14 s14
          have HC := Lib.hid (PN.out.r2 ▸ readA_calls a _ _ c 0 2 0 sz _ H14.out)
          go_wp2_with fail
          refine (HC.out).mono ?_
          rintro e w15 ⟨vz, rfl, h15, s15⟩
          rw [show (zeros sz).length = sz by simp [zeros]] at h15
          obtain ⟨zo, zc, rfl, hsz⟩ := Src.of_row h15
          obtain ⟨zb, zof, rfl, hzlt, hzc⟩ := hsz.cell z2
          have HZL := Lib.hid hzc
          have H15 := Lib.hid (h15.eqv (star_left_comm _ _ _))
          have S15 := Lib.hid (S14.out.trans s15)
          clear HC H14 S14 h15 s15 hsz hzc
          obtain ⟨q0, q1, q2, ql⟩ := Fr.h (H15.out.eqv (by ac_rfl : _ = (Ar a (two c ⟨1, 2, zeros sz⟩ ⟨1, 1, zeros sz⟩) * (rowA 5 1 (.slice (some ⟨zb, zof, none⟩) sz zc) sz (u8s (zeros sz)) * pts w14.heap.size (.cells #[.int .i64 c, .int .i64 (0 : Int), .int .i64 2] 36 (0, 0)) * (rowA 5 1 (.slice xo sn xc) sn (u8s bs) * rowA 5 1 (.slice (some ⟨yb, yof, none⟩) sz yc) sz (u8s (zeros sz))))) * Fr w c w2.heap.size w3.heap.size))
          have hp : Holds w15 (pts w14.heap.size (.cells #[.int .i64 c, .int .i64 (0 : Int), .int .i64 2] 36 (0, 0)) * (Ar a (two c ⟨1, 2, zeros sz⟩ ⟨1, 1, zeros sz⟩) * (rowA 5 1 (.slice (some ⟨zb, zof, none⟩) sz zc) sz (u8s (zeros sz)) * ((rowA 5 1 (.slice xo sn xc) sn (u8s bs) * rowA 5 1 (.slice (some ⟨yb, yof, none⟩) sz yc) sz (u8s (zeros sz))) * Fr w c w2.heap.size w3.heap.size)))) := H15.out.eqv (by ac_rfl)
          have p0 := hp.cell 0
          have p1 := hp.cell 1
          have p2 := hp.cell 2
          have pl := hp.lt
          simp only [List.getElem?_toArray, List.getElem?_cons_zero, List.getElem?_cons_succ] at p0 p1 p2
          clear hp
          have HC := Lib.hid (PN.out.s2 ▸ holdA_calls a _ _ c 0 1 w15 H15.out)
          go_wp2_with fail
          refine (HC.out).mono ?_
          rintro e w16 ⟨rfl, h16, s16⟩
          have hz16 : Src w16 (some ⟨zb, zof, none⟩) sz (zeros sz) := (Src.of_row (h16.eqv (by ac_rfl : _ = rowA 5 1 (.slice (some ⟨zb, zof, none⟩) sz zc) sz (u8s (zeros sz)) * (Ar a (two c ⟨1, 2, zeros sz⟩ ⟨1, 1, zeros sz⟩) * (pts w14.heap.size (.cells #[.int .i64 c, .int .i64 (0 : Int), .int .i64 2] 36 (0, 0)) * ((rowA 5 1 (.slice xo sn xc) sn (u8s bs) * rowA 5 1 (.slice (some ⟨yb, yof, none⟩) sz yc) sz (u8s (zeros sz))) * Fr w c w2.heap.size w3.heap.size))))) |> fun ⟨so, sc, e, h⟩ => by simp at e; rw [e.1]; exact h)
          obtain ⟨zb', zof', hze, hzlt', hzc'⟩ := hz16.cell z2
          obtain ⟨rfl, rfl⟩ : zb = zb' ∧ zof = zof' := by simpa using hze
          have HZ := Lib.hid hzc'
          have HB := Lib.hid (Fr.bel (h16.eqv (by ac_rfl : _ = (Ar a (two c ⟨1, 2, zeros sz⟩ ⟨1, 1, zeros sz⟩) * (pts w14.heap.size (.cells #[.int .i64 c, .int .i64 (0 : Int), .int .i64 2] 36 (0, 0)) * (rowA 5 1 (.slice (some ⟨zb, zof, none⟩) sz zc) sz (u8s (zeros sz)) * (rowA 5 1 (.slice xo sn xc) sn (u8s bs) * rowA 5 1 (.slice (some ⟨yb, yof, none⟩) sz yc) sz (u8s (zeros sz)))))) * Fr w c w2.heap.size w3.heap.size)) (S15.out.trans s16))
          clear q0 q1 q2 ql p0 p1 p2 pl HC H15 S15 h16 s16 hz16 hze hzc' hzlt HZL
          go_wp2_with fail
          go_loop [18] (fun i => ∃ j : Nat, j ≤ sz ∧ i = .int .i64 j) (fun i => sz - (intOf i).toNat)
          case atStart => exact ⟨0, Nat.zero_le _, rfl⟩
          case round =>
            obtain ⟨j, hj, rfl⟩ := hrel
            by_cases hjl : j < sz
            · have cj := HZ.out j hjl
              rw [zget] at cj
              have j0 : (0 : Int) ≤ (j : Int) := by omega
              have j1 : (j : Int) < (sz : Int) := by omega
              go_wp2_with fail
              go_round
              case rel => exact ⟨j + 1, by omega, by go_num⟩
              case measure => simp [intOf]; omega
            · obtain rfl : sz = j := by omega
              go_wp2_with fail
              go_ret
              exact ⟨rfl, HB.out⟩
#print axioms back_walk
end Go.Proofs.Ytbmcfmcolhgibaa.Slab
