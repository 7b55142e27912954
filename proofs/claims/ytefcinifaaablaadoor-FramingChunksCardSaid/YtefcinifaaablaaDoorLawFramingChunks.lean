/-
  FramingChunks, the walk.
-/
import Derived.Test.YtefcinifaaablaaDoorFrRef
import Derived.Laws.BytesArg
import Derived.Deep.RegionWith
import Derived.Deep.DeepCutAuto
import Derived.Deep.CutBlock
import Derived.Deep.RegionLaw
namespace Go.Proofs.YtefcinifaaablaaDoor.Fr
open Go.RowKit Go.Sep
open Go.Lib (strCells strCells_length)
set_option maxRecDepth 100000
set_option linter.unusedVariables false
set_option linter.unusedSimpArgs false

theorem cells_conv {w : World} {a : Addr} {n c : Nat} {bs : List Int} (hn : bs.length = n) (h : ∀ i v, (u8s bs)[i]? = some v → w.cell? (a.add i) = some v) : (convert 22 9 (.slice (some a) n c)).run Tryd.prog w = .ok (.string (strOfNums bs)) w := by
  have hl : (loadCells a n).run Tryd.prog w = .ok (u8s bs).toArray w := by
    have := run_loadCells_list (P := Tryd.prog) w a (u8s bs) h
    have e : (u8s bs).length = n := by simp [u8s, hn]
    rwa [e] at this
  rw [run_convert_bytes_string w 22 9 5 _ n c Tryd.underlying22 Tryd.underlying5 Tryd.underlying9, run_bytesToString w _ n c bs hl, foldl_push_bytes]
  simp [strOfNums, ByteArray.empty, ByteArray.emptyWithCapacity]
  rfl
theorem nil_conv (n c : Nat) (w : World) : (convert 22 9 (.slice none n c)).run Tryd.prog w = .ok (.string ⟨#[]⟩) w := by
  rw [run_convert_bytes_nil w 22 5 Tryd.underlying22 Tryd.underlying5 n c 9 Tryd.underlying9]
  rfl
theorem chunk_nil (a : Option Addr) (c : Nat) (w : World) : Calls Tryd.prog 6 #[.slice a 0 c] w fun e w' => e = .returned (.slice none 0 0) ∧ w' = w := by
  go_enter Tryd.func6, Tryd.ntmps6
  go_wp2_with fail
  go_ret
  exact ⟨rfl, rfl⟩
theorem rchunk_nil (a : Option Addr) (c : Nat) (w : World) : Calls Tryd.prog 7 #[.slice a 0 c] w fun e w' => e = .returned (.slice none 0 0) ∧ w' = w := by
  go_enter Tryd.func7, Tryd.ntmps7
  go_wp2_with fail
  go_ret
  exact ⟨rfl, rfl⟩
theorem last_str : strOfNums [48, 13, 10, 13, 10] = ⟨#[48, 13, 10, 13, 10]⟩ := by rfl
/-- what is known of the argument, cut to n bytes -/
def Bt (w : World) (a : Option Addr) (n : Nat) (bs : List Int) : Prop := n = 0 ∨ (0 < n ∧ ∃ ad, a = some ad ∧ bs.length = n ∧ ∀ i v, (u8s bs)[i]? = some v → w.cell? (ad.add i) = some v)
def Cv (v : Value) (S : ByteArray) (w : World) : Prop := (convert 22 9 v).run Tryd.prog w = .ok (.string S) w
structure Three (w : World) (a : Option Addr) (n c : Nat) (S : ByteArray) (X : Value → Asr) (Z : Value → Value → Asr) : Prop where
  one : ∀ wq, wq.cell? ⟨2, 15, none⟩ = some (.int .u8 4) → Holds wq (all w) → Calls Tryd.prog 6 #[.slice a n c] wq fun e w' => ∃ v, e = .returned v ∧ Holds w' (X v) ∧ Sm wq w' ∧ Cv v S w'
  two : ∀ wq v, Holds wq (X v) → Calls Tryd.prog 7 #[.slice a n c] wq fun e w' => ∃ v2, e = .returned v2 ∧ Holds w' (Z v v2) ∧ Sm wq w' ∧ Cv v S w' ∧ Cv v2 S w'
  three : ∀ wq v v2, Holds wq (Z v v2) → Calls Tryd.prog 8 #[] wq fun e w' => ∃ v3, e = .returned v3 ∧ Holds w' (all w) ∧ Sm wq w' ∧ Cv v3 ⟨#[48, 13, 10, 13, 10]⟩ w'
theorem last_three (F : Asr) (w w0 : World) (h : Holds w (F * all w0)) : Calls Tryd.prog 8 #[] w fun e w' => ∃ v3, e = .returned v3 ∧ Holds w' (all w0) ∧ Sm w w' ∧ Cv v3 ⟨#[48, 13, 10, 13, 10]⟩ w' := by
  refine (last_calls _ w h).mono ?_
  rintro e w' ⟨g, rfl, h1, s1⟩
  refine ⟨_, rfl, h1.right.right, s1, ?_⟩
  have := cells_conv (w := w') (a := ⟨g, 0, none⟩) (n := 5) (c := 5) (bs := [48, 13, 10, 13, 10]) rfl (fun i v hv => by rw [Addr.add_lit, Nat.zero_add, h1.cell]; simpa using hv)
  rw [last_str] at this
  exact this
theorem three (w : World) (a : Option Addr) (n c : Nat) (bs : List Int) (n9 : n ≤ 5000) (h : Bt w a n bs) : ∃ S X Z, Three w a n c S X Z := by
  rcases h with rfl | ⟨n0, ad, rfl, hn, hc⟩
  · refine ⟨⟨#[]⟩, fun v => pur (v = .slice none 0 0) * all w, fun _ _ => emp * all w, ⟨fun wq _ h => ?_, fun wq v h => ?_, fun wq v v2 h => last_three _ wq w h⟩⟩
    · refine (chunk_nil a c wq).mono ?_
      rintro e w' ⟨rfl, rfl⟩
      exact ⟨_, rfl, holds_pur.2 ⟨rfl, h⟩, Sm.refl _, nil_conv _ _ _⟩
    · obtain ⟨rfl, h2⟩ := holds_pur.1 h
      refine (rchunk_nil a c wq).mono ?_
      rintro e w' ⟨rfl, rfl⟩
      exact ⟨_, rfl, by rw [emp_star]; exact h2, Sm.refl _, nil_conv _ _ _, nil_conv _ _ _⟩
  · obtain ⟨L, hL⟩ : ∃ q, hexL 4 n ++ [13, 10] ++ bs ++ [13, 10] = q := ⟨_, rfl⟩
    have hL0 : 0 < L.length := by rw [← hL]; simp; omega
    have cvA : ∀ (wq : World) (v : Value) (F : Asr), Holds wq (rowA 5 1 v L.length (u8s L) * F) → Cv v (strOfNums L) wq := by
      intro wq v F h
      obtain ⟨g, cp, rfl, -, -, hcell, -⟩ := rowA_cell h hL0
      refine cells_conv rfl fun i v hv => ?_
      have hi := (List.getElem?_eq_some_iff.1 hv).1
      rw [Addr.add_lit, Nat.zero_add, hcell i (by simpa [u8s] using hi)]
      exact hv
    have cvZ : ∀ (wq : World) (v : Value) (F : Asr), Holds wq (rowZ 5 v L.length (u8s L) * F) → Cv v (strOfNums L) wq := by
      intro wq v F h
      obtain ⟨g, cp, rfl, -, hcell⟩ := rowZ_cell h
      refine cells_conv rfl fun i v hv => ?_
      rw [Addr.add_lit, Nat.zero_add]
      exact hcell i v hv
    refine ⟨strOfNums L, fun v => rowA 5 1 v L.length (u8s L) * all w, fun v v2 => (rowZ 5 v2 L.length (u8s L) * rowA 5 1 v L.length (u8s L)) * all w, ⟨fun wq ht h => ?_, fun wq v h => ?_, fun wq v v2 h => last_three _ wq w h⟩⟩
    · have t := chunk_calls ad n c bs hn n0 n9 (all w) wq (fun wz G hz i v hv => all_cell hz (hc i v hv)) ht h
      rw [hL] at t
      refine t.mono ?_
      rintro e w' ⟨v, rfl, h1, s1⟩
      exact ⟨v, rfl, h1, s1, cvA w' v _ h1⟩
    · have t := rchunk_calls ad n c bs hn n0 n9 (rowA 5 1 v L.length (u8s L) * all w) wq (fun wz G hz i v hv => all_cell (hz.eqv (star_assoc _ _ _).symm) (hc i v hv)) h
      rw [hL] at t
      refine t.mono ?_
      rintro e w' ⟨v2, rfl, h1, s1⟩
      exact ⟨v2, rfl, h1.eqv (star_assoc _ _ _).symm, s1, cvA w' v _ (h1.eqv (star_left_comm _ _ _)), cvZ w' v2 _ h1⟩
set_option maxHeartbeats 4000000 in
theorem fchunks_walk (a : Option Addr) (len cap : Nat) (zs : List Int) (w : World) (hz : IsRow .u8 w a len cap zs) (hT : w.cell? ⟨2, 15, none⟩ = some (.int .u8 4)) :
    Calls Tryd.prog 3 #[.slice a len cap] w fun e w' => e = .returned (.bool true) ∧ Below w.heap.size w w' := by
  have BT : Hid (∀ n, n ≤ len → ∃ bs, Bt w a n bs) := by
    intro n hn
    rcases Nat.eq_zero_or_pos n with h0 | h0
    · exact ⟨[], .inl h0⟩
    · rcases hz with ⟨-, h, -, -⟩ | ⟨ad, rfl, hlc, hm, hzl, hc, -⟩
      · omega
      · refine ⟨zs.take n, .inr ⟨h0, ad, rfl, by simp; omega, fun i v hv => ?_⟩⟩
        simp only [u8s, List.getElem?_map, List.getElem?_take] at hv
        split at hv
        · rename_i hi
          rw [hc i (by omega)]
          rw [List.getElem?_eq_getElem (by omega)] at hv
          simpa [List.getD, List.getElem?_eq_getElem (show i < zs.length by omega)] using hv
        · simp at hv
  have CAP : Hid (len ≤ cap) := by
    rcases hz with ⟨-, h, -, -⟩ | ⟨ad, rfl, hlc, -⟩
    · show _ ≤ _; omega
    · exact hlc
  have HW := Lib.hid (holds_all w)
  have HT := Lib.hid hT
  clear hz hT
  go_enter Tryd.func3, Tryd.ntmps3
  go_upto_if 5 with (fail)
  go_cut [0] (fun x wc => ∃ n c : Nat, x = .slice a n c ∧ wc = w ∧ n ≤ 5000 ∧ Hid (n ≤ len))
  case first =>
    by_cases h5 : 5000 < len
    · have e0 : decide ((5000 : Int) < (len : Int)) = true := by simp; omega
      have e1 : decide (5000 < len) = true := by simpa using h5
      have e2 : (5000 : Int) < (len : Int) := by omega
      have e3 : 5000 ≤ cap := by have := CAP.out; omega
      have e4 : (5000 : Int) ≤ (cap : Int) := by omega
      have h5' := Lib.hid h5
      go_wp2_with fail
      go_meet
      case rel => exact ⟨5000, cap, rfl, rfl, Nat.le_refl _, Nat.le_of_lt h5'.out⟩
    · have e0 : decide ((5000 : Int) < (len : Int)) = false := by simp; omega
      have e1 : decide (5000 < len) = false := by simpa using h5
      have e2 : ¬ (5000 : Int) < (len : Int) := by omega
      have h5' : Hid (len ≤ 5000) := by show _ ≤ _; omega
      go_wp2_with fail
      go_meet
      case rel => exact ⟨len, cap, rfl, rfl, h5'.out, Nat.le_refl _⟩
  case rest =>
    obtain ⟨n, c, rfl, rfl, n9, HL⟩ := hcut
    obtain ⟨bs, hbt⟩ := BT.out n HL.out
    obtain ⟨S, X, Z, T3⟩ := three wc a n c bs n9 hbt
    have T := Lib.hid T3
    clear T3 hbt BT CAP HL
    go_wp2_with fail
    go_region_with (first | (go_at_call 6; refine (T.out.one _ ?_ ?_).mono ?_; (exact HT.out); (exact HW.out.drew); rintro e w1 ⟨v1, rfl, h1, s1, cv1'⟩; have cv1 : (convert 22 9 v1).run Tryd.prog w1 = .ok (.string S) w1 := cv1'; have H1 := Lib.hid h1; have S1 := Lib.hid s1; clear h1 s1 cv1') | (go_at_call 7; refine (T.out.two _ v1 ?_).mono ?_; (exact H1.out); rintro e w2 ⟨v2, rfl, h2, s2, cv12', cv2'⟩; have cv12 : (convert 22 9 v1).run Tryd.prog w2 = .ok (.string S) w2 := cv12'; have cv2 : (convert 22 9 v2).run Tryd.prog w2 = .ok (.string S) w2 := cv2'; have H2 := Lib.hid h2; have S2 := Lib.hid s2; clear h2 s2 cv12' cv2') | (go_at_call 8; refine (T.out.three _ v1 v2 ?_).mono ?_; (exact H2.out); rintro e w3 ⟨v3, rfl, h3, s3, cv3'⟩; have cv3 : (convert 22 9 v3).run Tryd.prog w3 = .ok (.string ⟨#[48, 13, 10, 13, 10]⟩) w3 := cv3'; have H3 := Lib.hid h3; have S3 := Lib.hid s3; clear h3 s3 cv3'))
    all_goals
      have SF : Hid (Sm wc w3) := (((Sm.refl wc).drew.trans S1.out).trans S2.out).trans S3.out
      have FIN := Lib.hid (Holds.below (A := emp) (by rw [emp_star]; exact H3.out) SF.out)
      go_wp2_with fail
      go_ret
      exact ⟨rfl, FIN.out⟩
#print axioms fchunks_walk
end Go.Proofs.YtefcinifaaablaaDoor.Fr
