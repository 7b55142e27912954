/-
  Layer 17: the number of a name: the program's and the document's.
-/
import Derived.Test.YtefcinifaaablaaRows
import Derived.Test.YtefcinifaaablaaMem
import Derived.Deep.QuietTactic
import Derived.BigQuiet
import Derived.LoopTactic
import Derived.OwnWalk
import Derived.Outline
namespace Go.Proofs.Ytefcinifaaablaa.Stripe
open Go.RowKit Go.Sep
set_option maxRecDepth 100000
set_option linter.unusedVariables false
set_option linter.unusedSimpArgs false

def hstep (h b : Nat) : Nat := ((h ^^^ b) * 16777619) % 4294967296
def hashN (bs : List Nat) : Nat := bs.foldl hstep 2166136261
def tb (t : Int) : List Nat := let w := (t % 4294967296).toNat; [w / 16777216, w / 65536 % 256, w / 256 % 256, w % 256]
def hb (t : Int) (s : ByteArray) : List Nat := tb t ++ s.data.toList.map UInt8.toNat
theorem hstep_lt (h b : Nat) : hstep h b < 4294967296 := by unfold hstep; exact Nat.mod_lt _ (by omega)
theorem fold_lt (l : List Nat) (h : Nat) (hh : h < 4294967296) : l.foldl hstep h < 4294967296 := by
  induction l generalizing h with
  | nil => exact hh
  | cons x l ih => exact ih _ (hstep_lt _ _)
theorem hashN_lt (bs : List Nat) : hashN bs < 4294967296 := fold_lt bs _ (by omega)
theorem foldl_snoc {α β : Type _} (f : α → β → α) (x : α) (l : List β) (b : β) : (l ++ [b]).foldl f x = f (l.foldl f x) b := by rw [List.foldl_append]; rfl
theorem hashN_snoc (bs : List Nat) (b : Nat) : hashN (bs ++ [b]) = hstep (hashN bs) b := foldl_snoc hstep 2166136261 bs b
theorem hashN_take (bs : List Nat) (j : Nat) (h : j < bs.length) : hashN (bs.take (j + 1)) = hstep (hashN (bs.take j)) bs[j] := by rw [List.take_succ_eq_append_getElem h, hashN_snoc]

theorem xor_u32 (a b : Nat) (ha : a < 4294967296) (hb : b < 4294967296) : bits .xor .u32 a b = ((a ^^^ b : Nat) : Int) ∧ a ^^^ b < 4294967296 := by
  have hx : a ^^^ b < 2 ^ 32 := Nat.xor_lt_two_pow (show a < 2 ^ 32 by omega) (show b < 2 ^ 32 by omega)
  refine ⟨?_, by omega⟩
  simp only [bits, BitVec.ofInt_natCast, BitVec.toNat_xor, BitVec.toNat_ofNat]
  simp only [show IntKind.u32.bits = 32 from rfl]
  rw [Nat.mod_eq_of_lt (show a < 2 ^ 32 by omega), Nat.mod_eq_of_lt (show b < 2 ^ 32 by omega), IntKind.wrap_u32]
  omega
theorem xor_i64 (a b : Nat) (ha : a < 4294967296) (hb : b < 4294967296) : bits .xor .i64 a b = ((a ^^^ b : Nat) : Int) ∧ a ^^^ b < 4294967296 := by
  have hx : a ^^^ b < 2 ^ 32 := Nat.xor_lt_two_pow (show a < 2 ^ 32 by omega) (show b < 2 ^ 32 by omega)
  refine ⟨?_, by omega⟩
  simp only [bits, BitVec.ofInt_natCast, BitVec.toNat_xor, BitVec.toNat_ofNat]
  simp only [show IntKind.i64.bits = 64 from rfl]
  rw [Nat.mod_eq_of_lt (show a < 2 ^ 64 by omega), Nat.mod_eq_of_lt (show b < 2 ^ 64 by omega), IntKind.wrap_i64]
  omega
theorem and255_u32 (x : Nat) (hx : x < 4294967296) : bits .and .u32 x 255 = ((x % 256 : Nat) : Int) := by
  simp only [bits]
  have : ((255 : Int)) = ((255 : Nat) : Int) := rfl
  rw [this]
  simp only [BitVec.ofInt_natCast, BitVec.toNat_and, BitVec.toNat_ofNat]
  simp only [show IntKind.u32.bits = 32 from rfl]
  rw [Nat.mod_eq_of_lt (show x < 2 ^ 32 by omega), Nat.mod_eq_of_lt (show 255 < 2 ^ 32 by omega), show 255 = 2 ^ 8 - 1 from rfl, Nat.and_two_pow_sub_one_eq_mod, IntKind.wrap_u32]
  omega

theorem step_u32 (h b : Nat) (hh : h < 4294967296) (hb : b < 4294967296) : bits .xor .u32 h b * 16777619 % 4294967296 = ((hstep h b : Nat) : Int) := by
  rw [(xor_u32 h b hh hb).1]; unfold hstep; omega
theorem step_and (h x : Nat) (hh : h < 4294967296) (hx : x < 4294967296) (y : Int) (hy : y = x) : bits .xor .u32 h (bits .and .u32 y 255) * 16777619 % 4294967296 = ((hstep h (x % 256) : Nat) : Int) := by
  subst hy
  rw [and255_u32 x hx]; exact step_u32 h _ hh (by omega)
theorem step_i64 (h b : Nat) (hh : h < 4294967296) (hb : b < 256) (z : Int) (hz : z = bits .xor .i64 h b * 16777619) : 0 ≤ z ∧ z ≤ 9223372036854775807 ∧ z % 4294967296 = ((hstep h b : Nat) : Int) := by
  obtain ⟨h1, h2⟩ := xor_i64 h b hh (by omega)
  rw [h1] at hz; subst hz; unfold hstep; omega

set_option maxHeartbeats 1000000 in
theorem hash_calls (t : Int) (s : ByteArray) (w : World) (hs : s.size ≤ 1000) :
    Calls Try.prog 81 #[.agg #[.int .i64 t, .string s]] w fun e w' => e = .returned (.int .u32 (hashN (hb t s) : Nat)) ∧ Below w.heap.size w w' := by
  obtain ⟨W, hW, hWl, hWt⟩ : ∃ W : Nat, IntKind.u32.wrap t = W ∧ W < 4294967296 ∧ (t % 4294967296).toNat = W := ⟨(t % 4294967296).toNat, by rw [IntKind.wrap_u32]; omega, by omega, rfl⟩
  have hl : (tb t).length = 4 := rfl
  have nx : ∀ j (h : j < 4), hashN ((tb t).take (j + 1)) = hstep (hashN ((tb t).take j)) ((tb t)[j]'(by omega)) := fun j h => hashN_take _ j (by omega)
  have n0 : hashN ((tb t).take 1) = hstep (hashN ((tb t).take 0)) (W / 16777216 % 256) := by rw [nx 0 (by omega)]; simp only [tb, hWt, List.getElem_cons_zero]; rw [Nat.mod_eq_of_lt (show W / 16777216 < 256 by omega)]
  have n1 : hashN ((tb t).take 2) = hstep (hashN ((tb t).take 1)) (W / 65536 % 256) := by rw [nx 1 (by omega)]; simp only [tb, hWt, List.getElem_cons_succ, List.getElem_cons_zero]
  have n2 : hashN ((tb t).take 3) = hstep (hashN ((tb t).take 2)) (W / 256 % 256) := by rw [nx 2 (by omega)]; simp only [tb, hWt, List.getElem_cons_succ, List.getElem_cons_zero]
  have n3 : hashN ((tb t).take 4) = hstep (hashN ((tb t).take 3)) (W % 256) := by rw [nx 3 (by omega)]; simp only [tb, hWt, List.getElem_cons_succ, List.getElem_cons_zero]
  have nb := fun j => hashN_lt ((tb t).take j)
  have ht4 : (tb t).take 4 = tb t := rfl
  have hsnoc : ∀ k (h : k < s.size), hashN (tb t ++ (s.data.toList.take (k + 1)).map UInt8.toNat) = hstep (hashN (tb t ++ (s.data.toList.take k).map UInt8.toNat)) s[k].toNat := by
    intro k h
    rw [List.take_succ_eq_append_getElem (by simpa using h), List.map_append, ← List.append_assoc]
    exact hashN_snoc _ _
  have hfin : hashN (tb t ++ (s.data.toList.take s.size).map UInt8.toNat) = hashN (hb t s) := by
    unfold hb; rw [List.take_of_length_le (by simp)]
  have hbn := fun k => hashN_lt (tb t ++ (s.data.toList.take k).map UInt8.toNat)
  have hst : hashN (tb t) = hashN (tb t ++ (s.data.toList.take 0).map UInt8.toNat) := by simp
  obtain ⟨H, hH⟩ : ∃ H : Nat → Nat, ∀ j, hashN ((tb t).take j) = H j := ⟨_, fun _ => rfl⟩
  obtain ⟨G, hG⟩ : ∃ G : Nat → Nat, ∀ j, hashN (tb t ++ (s.data.toList.take j).map UInt8.toNat) = G j := ⟨_, fun _ => rfl⟩
  simp only [hH] at n0 n1 n2 n3 nb
  simp only [hG] at hsnoc hfin hbn hst
  have hH4 : H 4 = G 0 := by rw [← hH, ht4]; exact hst
  have h0 : H 0 = 2166136261 := by rw [← hH]; rfl
  have N0 := Lib.hid n0
  have N1 := Lib.hid n1
  have N2 := Lib.hid n2
  have N3 := Lib.hid n3
  have NB := Lib.hid nb
  have SN := Lib.hid hsnoc
  have FN := Lib.hid hfin
  have GB := Lib.hid hbn
  have H4 := Lib.hid hH4
  have H0 := Lib.hid h0
  clear n0 n1 n2 n3 nb hsnoc hfin hbn hst hH4 h0 hH hG nx hl ht4 hWt
  go_enter Try.func81, Try.ntmps81
  go_wp2
  go_loop [3, 4] (fun h i => ∃ j : Nat, j ≤ 4 ∧ i = .int .i64 (24 - 8 * (j : Int)) ∧ h = .int .u32 (H j)) (fun _ i => (intOf i + 8).toNat)
  case atStart => exact ⟨0, by omega, rfl, by rw [H0.out]; rfl⟩
  case round =>
    obtain ⟨j, hj, rfl, rfl⟩ := hrel
    have : j = 0 ∨ j = 1 ∨ j = 2 ∨ j = 3 ∨ j = 4 := by omega
    rcases this with rfl | rfl | rfl | rfl | rfl
    · go_wp2
      exact ⟨⟨1, by omega, rfl, by rw [N0.out]; exact congrArg _ (step_and (H 0) (W / 16777216) (NB.out 0) (by omega) _ (by simp))⟩, by simp [intOf]⟩
    · go_wp2
      exact ⟨⟨2, by omega, rfl, by rw [N1.out]; exact congrArg _ (step_and (H 1) (W / 65536) (NB.out 1) (by omega) _ (by simp))⟩, by simp [intOf]⟩
    · go_wp2
      exact ⟨⟨3, by omega, rfl, by rw [N2.out]; exact congrArg _ (step_and (H 2) (W / 256) (NB.out 2) (by omega) _ (by simp))⟩, by simp [intOf]⟩
    · go_wp2
      exact ⟨⟨4, by omega, rfl, by rw [N3.out]; exact congrArg _ (step_and (H 3) W (NB.out 3) hWl _ (by simp))⟩, by simp [intOf]⟩
    · go_wp2
      go_loop [3, 22] (fun h i => ∃ k : Nat, k ≤ s.size ∧ i = .int .i64 k ∧ h = .int .u32 (G k)) (fun _ i => s.size - (intOf i).toNat)
      case atStart => exact ⟨0, Nat.zero_le _, rfl, by rw [H4.out]⟩
      case round =>
        obtain ⟨k, hk, rfl, rfl⟩ := hrel
        by_cases hlt : k < s.size
        · have sn := Lib.hid (SN.out k hlt)
          have hbyte : s[k].toNat < 256 := s[k].toNat_lt
          have gb := GB.out k
          go_wp2
          go_round
          case rel => exact ⟨k + 1, by omega, by go_num, by rw [sn.out]; exact congrArg _ (step_u32 (G k) s[k].toNat gb (by omega))⟩
          case measure => simp [intOf]; omega
        · obtain rfl : k = s.size := by omega
          go_wp2
          go_ret
          exact ⟨by rw [← FN.out]; rfl, (Below.refl _ _).alloc (Nat.le_refl _) _⟩

def iEnc (n : Nat) : List Value := [.int .i64 n]
theorem iEnc_len (n : Nat) : (iEnc n).length = 1 := rfl
theorem infoI : (Try.prog.info? 3).map (fun i => (i.zero, i.size, i.bytes)) = some (some (.int .i64 0), 1, 8) := by kernel_rfl

def hbk (t : Int) (s : ByteArray) (k : Nat) : List Nat := tb t ++ (s.data.toList.take k).map UInt8.toNat
set_option maxHeartbeats 1000000 in
theorem refHash_calls (t : Int) (s : ByteArray) (w : World) (hs : s.size ≤ 1000) :
    Calls Try.prog 70 #[.int .i64 t, .string s] w fun e w' => e = .returned (.int .i64 (hashN (hb t s) : Nat)) ∧ Below w.heap.size w w' := by
  obtain ⟨q, hq⟩ : ∃ q, Int.tmod t 4294967296 = q := ⟨_, rfl⟩
  have hq1 : q < 4294967296 := by rw [← hq]; exact Int.tmod_lt_of_pos t (by omega)
  have hq2 : -4294967296 < q := by rw [← hq]; exact Int.lt_tmod_of_pos t (by omega)
  obtain ⟨W, hW⟩ := Int.eq_ofNat_of_zero_le (Int.emod_nonneg (q + 4294967296) (show (4294967296 : Int) ≠ 0 by omega))
  have hWl : W < 4294967296 := by omega
  have hWt : (t % 4294967296).toNat = W := by
    have : t % 4294967296 = W := by
      rw [← hW, ← hq]
      have := Int.tmod_eq_emod (a := t) (b := 4294967296)
      split at this <;> omega
    omega
  have HT : Hid (tb t = [W / 16777216, W / 65536 % 256, W / 256 % 256, W % 256]) := by show tb t = _; unfold tb; rw [hWt]
  clear hWt
  go_enter Try.func70, Try.ntmps70
  go_wp2
  rw [hW]
  clear hW hq
  have hb8 : ∀ (k : Nat) (h : k < s.size), s[k].toNat < 256 := fun k h => s[k].toNat_lt
  go_loopw [7, 8] (fun v i wr => ∃ k : Nat, k ≤ s.size ∧ i = .int .i64 k ∧ Hid (Holds wr (rowL 3 1 iEnc v (hbk t s k) * all w)) ∧ Hid (Sm w wr)) (fun _ i _ => s.size - (intOf i).toNat)
  case atStart =>
    refine ⟨0, Nat.zero_le _, rfl, ?_, (Sm.refl w).alloc _⟩
    have h1 := rowA_mk' (T := 3) (sz := 1) (n := 4) (cap := 4) ((holds_all w).alloc (.cells #[.int .i64 (W / 16777216 : Nat), .int .i64 (W / 65536 % 256 : Nat), .int .i64 (W / 256 % 256 : Nat), .int .i64 (W % 256 : Nat)] 3)) (Nat.le_refl _) (by simp [maxLen]) rfl rfl
    show Holds _ _
    unfold rowL hbk
    rw [HT.out]
    simpa [iEnc] using h1
  case round =>
    obtain ⟨k, hk, rfl, HH, HS⟩ := hrel
    obtain ⟨ao, cap, hv, hcap⟩ := rowA_slice HH.out
    have hlen : (hbk t s k).length = 4 + k := by unfold hbk; rw [HT.out]; simp; omega
    have hk0 := HH.out
    unfold rowL at hk0
    rw [hlen] at hv hcap
    subst hv
    by_cases hlt : k < s.size
    · have hnx : Hid (hbk t s (k + 1) = hbk t s k ++ [s[k].toNat]) := by
        show _ = _
        unfold hbk
        rw [List.take_succ_eq_append_getElem (by simpa using hlt), List.map_append, ← List.append_assoc]; rfl
      have HA := Lib.hid ((HH.out.alloc (.cells #[.int .i64 (s[k].toNat : Nat)] 3)).right)
      have HL1 : Hid ((hbk t s k).length + 1 ≤ maxLen) := by show _ ≤ _; rw [hlen]; unfold maxLen; omega
      have HL2 : Hid (((hbk t s k).length + 1) * 8 ≤ 140737488355328) := by show _ ≤ _; rw [hlen]; omega
      have h256 := hb8 k hlt
      clear hlen hk0
      go_wp2_with (at_builtin; refine wpList_append_one (enc := iEnc) rfl _ _ 34 rfl 3 (.int .i64 0) 1 8 Try.underlying34 infoI rfl (s[k].toNat) rfl HA.out ⟨wr.heap.size, 0, none⟩ 1 rfl rfl (cells_new wr _ _ _ rfl) (by simp [iEnc, Value.oneCell']) HL1.out HL2.out ?_)
      intro v' w2 h2 s2
      rw [← hnx.out] at h2
      have H2 := Lib.hid h2
      have S2 : Hid (Sm w w2) := (HS.out.alloc _).trans s2
      clear h2 s2 HA hnx
      go_wp2_with fail
      go_roundw
      case rel => exact ⟨k + 1, by omega, by go_num, H2.out, S2.out⟩
      case measure => simp [intOf]; omega
    · obtain rfl : k = s.size := by omega
      have hall : hbk t s s.size = hb t s := by unfold hb hbk; rw [List.take_of_length_le (by simp)]
      rw [hall] at HH hlen
      have hbelow : Hid (Below w.heap.size w wr) := HH.out.below HS.out
      have hb256 : ∀ j (h : j < (hb t s).length), (hb t s)[j] < 256 := by
        intro j h
        have : ∀ x ∈ hb t s, x < 256 := by
          intro x hx
          unfold hb at hx
          rw [HT.out] at hx
          simp only [List.mem_append, List.mem_map, List.mem_cons, List.not_mem_nil, or_false] at hx
          rcases hx with (rfl | rfl | rfl | rfl) | ⟨y, _, rfl⟩
          · omega
          · omega
          · omega
          · omega
          · exact y.toNat_lt
        exact this _ (List.getElem_mem h)
      have hcell : ∀ j (h : j < (hb t s).length), ∃ g, ao = some ⟨g, 0, none⟩ ∧ wr.cell? ⟨g, j, none⟩ = some (.int .i64 ((hb t s)[j] : Nat)) := by
        intro j h
        obtain ⟨g, cap', e1, -, -, hc, -⟩ := rowL_cell HH.out iEnc_len j h
        refine ⟨g, by simp at e1; exact e1.1, ?_⟩
        have := hc 0 (by omega)
        simpa [iEnc] using this
      have hnext : ∀ j (h : j < (hb t s).length), hashN ((hb t s).take (j + 1)) = hstep (hashN ((hb t s).take j)) (hb t s)[j] := fun j h => hashN_take _ j h
      have hlast : hashN ((hb t s).take (hb t s).length) = hashN (hb t s) := by rw [List.take_length]
      have hN := fun j => hashN_lt ((hb t s).take j)
      have h0 : hashN ((hb t s).take 0) = 2166136261 := rfl
      obtain ⟨G, hG⟩ : ∃ G : Nat → Nat, ∀ j, hashN ((hb t s).take j) = G j := ⟨_, fun _ => rfl⟩
      simp only [hG] at hnext hlast hN h0
      rw [hlen] at hlast
      have B256 := Lib.hid hb256
      have CELL := Lib.hid hcell
      have NEXT := Lib.hid hnext
      have LAST := Lib.hid hlast
      have NN := Lib.hid hN
      have H0 := Lib.hid h0
      have HLEN := Lib.hid hlen
      clear hb256 hcell hnext hlast hN h0 hG hall hk0 HH hlen
      go_wp2_with fail
      go_loop [5, 9] (fun h i => ∃ j : Nat, j ≤ 4 + s.size ∧ i = .int .i64 j ∧ h = .int .i64 (G j)) (fun _ i => 4 + s.size - (intOf i).toNat)
      case atStart => exact ⟨0, Nat.zero_le _, rfl, by rw [H0.out]; rfl⟩
      case round =>
        obtain ⟨j, hj, rfl, rfl⟩ := hrel
        by_cases hjl : j < 4 + s.size
        · have hjl' : j < (hb t s).length := by rw [HLEN.out]; exact hjl
          obtain ⟨g, rfl, hc⟩ := CELL.out j hjl'
          have hx8 := B256.out j hjl'
          have nx := Lib.hid (NEXT.out j hjl')
          obtain ⟨x, hx⟩ : ∃ x, (hb t s)[j] = x := ⟨_, rfl⟩
          rw [hx] at hc hx8 nx
          obtain ⟨z, hz⟩ : ∃ z, z = bits .xor .i64 (G j) x * 16777619 := ⟨_, rfl⟩
          obtain ⟨z1, z2, z3⟩ := step_i64 (G j) x (NN.out j) hx8 z hz
          have Z3 := Lib.hid z3
          have hz' := hz.symm
          clear hx hz z3
          have j0 : (0 : Int) ≤ (j : Int) := by omega
          have j1 : (j : Int) < ((4 + s.size : Nat) : Int) := by omega
          go_wp2
          go_round
          case rel => exact ⟨j + 1, by omega, by go_num, by rw [nx.out]; exact congrArg _ Z3.out⟩
          case measure => simp [intOf]; omega
        · obtain rfl : j = 4 + s.size := by omega
          go_wp2
          go_ret
          exact ⟨by rw [← LAST.out]; rfl, hbelow.out⟩
#print axioms refHash_calls
end Go.Proofs.Ytefcinifaaablaa.Stripe
