/-
  SlabFills: the arena of one class, plainly.
-/
import Derived.Test.YtefcinifaaablaaSlabOps
namespace Go.Proofs.Ytefcinifaaablaa.Slab
open Go.RowKit Go.Sep
set_option linter.unusedVariables false
set_option linter.unusedSimpArgs false

theorem isrow_at {k : IntKind} {w : World} {a : Option Addr} {len cap : Nat} {zs : List Int} (h : IsRow k w a len cap zs) (hl : 0 < len) :
    ∃ b off, a = some ⟨b, off, none⟩ ∧ len ≤ cap ∧ zs.length = cap ∧ b < w.heap.size ∧ (∀ i, i < cap → w.cell? ⟨b, off + i, none⟩ = some (.int k (zs.getD i 0))) ∧ ∀ n ∈ zs, (Lit.int k n).wf = true := by
  rcases h with ⟨rfl, rfl, _⟩ | ⟨x, rfl, h1, h2, h3, h4, h5⟩
  · omega
  · obtain ⟨b, off, sp⟩ := x
    have c0 := h4 0 (by omega)
    have hs : sp = none := by
      cases sp with
      | none => rfl
      | some s => simp only [Addr.add, if_pos rfl] at c0; unfold World.cell? at c0; split at c0 <;> simp at c0
    subst hs
    refine ⟨b, off, rfl, h1, h3, ?_, fun i hi => ?_, h5⟩
    · have := World.block_lt_of_cell? _ _ c0; simpa [Addr.add] using this
    · have := h4 i (by omega); rwa [Addr.add_lit] at this

def fA (c : Nat) (L : List ABlk) : List (List ABlk) := (List.replicate 4 []).set c L
def mk (sz : Nat) (st : List (Int × Int)) : List ABlk := st.map fun p => ⟨p.1, p.2, zeros sz⟩
section
variable {c : Nat} (hc : c < 4)
include hc
theorem fA_get {L : List ABlk} : (fA c L).getD c [] = L := by simp [fA, List.getD, hc]
theorem fA_set {L : List ABlk} (i : Int) (b : ABlk) : setA (fA c L) c i b = fA c (L.set i.toNat b) := by
  unfold setA fA
  apply List.ext_getElem?
  intro j
  rw [List.getElem?_modify, List.getElem?_set, List.getElem?_set]
  simp only [Int.toNat_natCast, List.length_replicate, hc, if_true]
  by_cases e : c = j <;> simp [e]
theorem fA_blk {L : List ABlk} (i : Nat) : blkA (fA c L) c i = L[i]? := by
  simp [blkA, fA, hc]
theorem clsFor_sz : clsFor (szOf c) = c := by
  have : c = 0 ∨ c = 1 ∨ c = 2 ∨ c = 3 := by omega
  rcases this with rfl | rfl | rfl | rfl <;> simp [szOf, clsFor]
theorem alloc_fA (L : List ABlk) : allocA (fA c L) (szOf c) = if freeA L = L.length then ⟨fA c L, (0, 0, 0), 14⟩ else
    ⟨fA c (L.set (freeA L) ⟨1, wrap64 ((L.getD (freeA L) default).gen + 1), (L.getD (freeA L) default).bytes⟩), (c, freeA L, wrap64 ((L.getD (freeA L) default).gen + 1)), 0⟩ := by
  have h := szN_val c hc
  unfold allocA
  rw [if_neg (by omega)]
  simp only [clsFor_sz hc, Int.toNat_natCast, fA_get hc, fA_set hc]
theorem drop_fA (L : List ABlk) (i : Nat) (hi : i < L.length) (h1 : L[i].held = 1) : dropA (fA c L) c i L[i].gen = ⟨fA c (L.set i ⟨0, L[i].gen, zeros L[i].bytes.length⟩), 0⟩ := by
  unfold dropA rightA
  rw [fA_blk hc, List.getElem?_eq_getElem hi]
  simp [h1, fA_set hc, dropB]
theorem live_fA (L : List ABlk) : liveA (fA c L) c = L.countP fun b => decide (0 < b.held) := by
  unfold liveA; rw [if_pos (by omega), Int.toNat_natCast, fA_get hc]
theorem new_fA (X : Nat → Int) (n : Nat) (hX : ∀ j, j < 4 → X j = if j = c then (n : Int) else 0) : newA X = fA c (mk (szN c) (List.replicate n (0, 0))) := by
  apply List.ext_getElem?
  intro j
  by_cases hj : j < 4
  · simp only [newA, fA, List.getElem?_map, List.getElem?_range hj, Option.map_some, List.getElem?_set, List.length_replicate, hc, if_true, hX j hj]
    by_cases e : c = j
    · subst e; simp [mk]
    · rw [if_neg e, List.getElem?_replicate, if_pos hj]; simp [Ne.symm e]
  · rw [List.getElem?_eq_none (by simp [newA]; omega), List.getElem?_eq_none (by simp [fA]; omega)]
end
theorem free_at (L : List ABlk) (k : Nat) (hk : k < L.length) (h0 : L[k].held = 0) (hlt : ∀ j (h : j < k), L[j].held ≠ 0) : freeA L = k := by
  unfold freeA
  exact (List.findIdx_eq hk).2 ⟨by simpa using h0, fun j hj => by simpa using hlt j hj⟩
theorem free_none (L : List ABlk) (h : ∀ j (h : j < L.length), L[j].held ≠ 0) : freeA L = L.length := by
  unfold freeA
  exact List.findIdx_eq_length.2 fun b hb => by obtain ⟨j, hj, rfl⟩ := List.getElem_of_mem hb; simpa using h j hj

/-! the first loop -/
def st1 (n i : Nat) : List (Int × Int) := List.replicate i (1, 1) ++ List.replicate (n - i) (0, 0)
theorem st1_len (n i : Nat) (h : i ≤ n) : (st1 n i).length = n := by simp [st1]; omega
theorem fill_one {c : Nat} (hc : c < 4) (n i : Nat) (hi : i < n) : allocA (fA c (mk (szN c) (st1 n i))) (szOf c) = ⟨fA c (mk (szN c) (st1 n (i + 1))), (c, i, 1), 0⟩ := by
  have hl : (mk (szN c) (st1 n i)).length = n := by simp [mk, st1_len n i (by omega)]
  have hfr : freeA (mk (szN c) (st1 n i)) = i := by
    refine free_at _ i (by omega) ?_ fun j hj => ?_
    · simp [mk, st1]
    · simp [mk, st1, List.getElem_append_left, hj]
  rw [alloc_fA hc, hfr, if_neg (by omega)]
  have hg : (mk (szN c) (st1 n i)).getD i default = ⟨0, 0, zeros (szN c)⟩ := by
    simp only [List.getD, List.getElem?_eq_getElem (show i < (mk (szN c) (st1 n i)).length by omega), Option.getD_some]
    simp [mk, st1]
  have hw : wrap64 (0 + 1) = 1 := by unfold wrap64; omega
  rw [hg]
  simp only [hw]
  congr 2
  apply List.ext_getElem
  · simp [mk, st1]; omega
  · intro j h1 h2
    rw [List.getElem_set]
    by_cases e : i = j
    · subst e; simp [mk, st1, List.getElem_append_left]
    · rw [if_neg e]
      by_cases hj : j < i
      · simp [mk, st1, List.getElem_append_left, hj, show j < i + 1 by omega]
      · simp [mk, st1, List.getElem_append_right, show i ≤ j by omega, show i + 1 ≤ j by omega]
/-! the second loop: all are in use, of generations gs -/
def st2 (gs : List Int) : List (Int × Int) := gs.map fun g => (1, g)
theorem st1_full (n : Nat) : st1 n n = st2 (List.replicate n 1) := by simp [st1, st2]
theorem mk_len (sz : Nat) (st : List (Int × Int)) : (mk sz st).length = st.length := by simp [mk]
theorem full_no {c : Nat} (hc : c < 4) (gs : List Int) : allocA (fA c (mk (szN c) (st2 gs))) (szOf c) = ⟨fA c (mk (szN c) (st2 gs)), (0, 0, 0), 14⟩ := by
  rw [alloc_fA hc, if_pos (free_none _ fun j hj => by simp [mk, st2])]
theorem live_full {c : Nat} (hc : c < 4) (gs : List Int) : liveA (fA c (mk (szN c) (st2 gs))) c = gs.length := by
  rw [live_fA hc]
  have : (mk (szN c) (st2 gs)).countP (fun b => decide (0 < b.held)) = (mk (szN c) (st2 gs)).length := List.countP_eq_length.2 fun b hb => by
    simp only [mk, st2, List.mem_map] at hb
    obtain ⟨p, ⟨g, _, rfl⟩, rfl⟩ := hb
    simp
  rw [this]; simp [mk, st2]
theorem swap_drop {c : Nat} (hc : c < 4) (gs : List Int) (k : Nat) (hk : k < gs.length) : dropA (fA c (mk (szN c) (st2 gs))) c k gs[k] = ⟨fA c ((mk (szN c) (st2 gs)).set k ⟨0, gs[k], zeros (szN c)⟩), 0⟩ := by
  have hk' : k < (mk (szN c) (st2 gs)).length := by simp [mk, st2, hk]
  have h := drop_fA hc (mk (szN c) (st2 gs)) k hk' (by simp [mk, st2])
  have e : (mk (szN c) (st2 gs))[k].gen = gs[k] := by simp [mk, st2]
  have e2 : (mk (szN c) (st2 gs))[k].bytes.length = szN c := by simp [mk, st2, zeros]
  rw [e, e2] at h; exact h
theorem swap_alloc {c : Nat} (hc : c < 4) (gs : List Int) (k : Nat) (hk : k < gs.length) (h0 : 0 ≤ gs[k]) (h1 : gs[k] ≤ 1000) :
    allocA (fA c ((mk (szN c) (st2 gs)).set k ⟨0, gs[k], zeros (szN c)⟩)) (szOf c) = ⟨fA c (mk (szN c) (st2 (gs.set k (gs[k] + 1)))), (c, k, gs[k] + 1), 0⟩ := by
  have hk' : k < ((mk (szN c) (st2 gs)).set k ⟨0, gs[k], zeros (szN c)⟩).length := by simp [mk, st2, hk]
  have hfr : freeA ((mk (szN c) (st2 gs)).set k ⟨0, gs[k], zeros (szN c)⟩) = k := by
    refine free_at _ k hk' (by simp) fun j hj => ?_
    rw [List.getElem_set_ne (by omega)]
    simp [mk, st2]
  rw [alloc_fA hc, hfr, if_neg (by omega)]
  have hg : ((mk (szN c) (st2 gs)).set k ⟨0, gs[k], zeros (szN c)⟩).getD k default = ⟨0, gs[k], zeros (szN c)⟩ := by
    simp only [List.getD, List.getElem?_eq_getElem hk', Option.getD_some, List.getElem_set_self]
  have hw : wrap64 (gs[k] + 1) = gs[k] + 1 := by unfold wrap64; omega
  rw [hg]
  simp only [hw, List.set_set]
  congr 2
  simp [mk, st2, List.map_set]
def hls (c : Nat) (gs : List Int) : List (Int × Int × Int) := gs.mapIdx fun k g => ((c : Int), (k : Int), g)
theorem hls_len (c : Nat) (gs : List Int) : (hls c gs).length = gs.length := by simp [hls]
theorem hls_get (c : Nat) (gs : List Int) (k : Nat) (h : k < (hls c gs).length) : (hls c gs)[k] = ((c : Int), (k : Int), gs[k]'(by rw [hls_len] at h; exact h)) := by simp [hls]
theorem hls_set (c : Nat) (gs : List Int) (k : Nat) (h : k < gs.length) (g : Int) : hls c (gs.set k g) = (hls c gs).set k ((c : Int), (k : Int), g) := by
  apply List.ext_getElem
  · simp [hls]
  · intro j h1 h2
    rw [hls_get, List.getElem_set, List.getElem_set]
    by_cases e : k = j
    · subst e; simp
    · simp [e, hls_get]
theorem hls_snoc (c n : Nat) : hls c (List.replicate (n + 1) 1) = hls c (List.replicate n 1) ++ [((c : Int), (n : Int), 1)] := by
  rw [List.replicate_succ', hls, List.mapIdx_append]; simp [hls]
#print axioms swap_alloc
end Go.Proofs.Ytefcinifaaablaa.Slab
