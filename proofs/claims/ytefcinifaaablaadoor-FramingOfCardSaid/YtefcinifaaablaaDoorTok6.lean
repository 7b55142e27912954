/-
  Layer 4: Names; layer 6: length.
-/
import Derived.Test.YtefcinifaaablaaDoorTok5
namespace Go.Proofs.YtefcinifaaablaaDoor.Tok
open Go.RowKit Go.Sep
set_option maxRecDepth 100000
set_option linter.unusedVariables false
set_option linter.unusedSimpArgs false

theorem trimL_len (l : List UInt8) : (trimL l).length ≤ l.length := by
  unfold trimL Go.Lib.trimS Go.Lib.trimLeftS Go.Lib.trimRightS
  have h1 : ∀ (p : UInt8 → Bool) (l : List UInt8), (l.dropWhile p).length ≤ l.length := fun p l => (List.dropWhile_sublist p).length_le
  refine Nat.le_trans (h1 _ _) ?_
  rw [List.length_reverse]
  refine Nat.le_trans (h1 _ _) ?_
  rw [List.length_reverse]
  exact Nat.le_refl _
structure SpB (S : Sp) (k : Nat) : Prop where
  own : S.own.length ≤ k
  out : S.out.length ≤ k
  all : ∀ w ∈ S.out, w.length ≤ k
theorem addW_ok {out : List (List UInt8)} {own : List UInt8} {k : Nat} (h1 : own.length ≤ k) (h2 : ∀ w ∈ out, w.length ≤ k) : ∀ w ∈ addW out own, w.length ≤ k := by
  intro w hw
  unfold addW at hw
  split at hw
  · exact h2 w hw
  · rcases List.mem_append.1 hw with h | h
    · exact h2 w h
    · rw [List.mem_singleton.1 h]
      exact Nat.le_trans (trimL_len own) h1
theorem spB_step {S : Sp} {k : Nat} (c : UInt8) (h : SpB S k) : SpB (spStep S c) (k + 1) := by
  obtain ⟨h1, h2, h3⟩ := h
  unfold spStep
  have ha : ∀ w ∈ S.out, w.length ≤ k + 1 := fun w hw => Nat.le_succ_of_le (h3 w hw)
  have hl := addW_len S.out S.own
  split
  · exact ⟨by simp; exact h1, Nat.le_succ_of_le h2, ha⟩
  · split
    · exact ⟨by simp; exact h1, Nat.le_succ_of_le h2, ha⟩
    · split
      · exact ⟨by simp; exact h1, Nat.le_succ_of_le h2, ha⟩
      · split
        · exact ⟨by simp, by simp only; omega, addW_ok (Nat.le_succ_of_le h1) ha⟩
        · exact ⟨by simp; exact h1, Nat.le_succ_of_le h2, ha⟩
theorem spB_fold : ∀ (l : List UInt8) (S : Sp) (k : Nat), SpB S k → SpB (l.foldl spStep S) (k + l.length)
  | [], S, k, h => h
  | c :: l, S, k, h => by
    have := spB_fold l _ _ (spB_step c h)
    rw [List.foldl_cons, List.length_cons, show k + (l.length + 1) = k + 1 + l.length by omega]
    exact this
theorem split_ok {l : List UInt8} {ws : List (List UInt8)} (h : splitL l = some ws) : ws.length ≤ l.length + 1 ∧ ∀ w ∈ ws, w.length ≤ l.length := by
  have hb := spB_fold l ⟨[], false, false, []⟩ 0 ⟨by simp, by simp, fun w hw => by simp at hw⟩
  rw [Nat.zero_add] at hb
  unfold splitL at h
  split at h
  · cases h
  · obtain rfl := Option.some.inj h
    have := addW_len (spL l).out (spL l).own
    have h2 : (spL l).out.length ≤ l.length := hb.out
    exact ⟨by omega, addW_ok hb.own hb.all⟩
structure Len where
  n : Nat
  has : Bool
  e : Nat
def lenR : Option Nat → List (List UInt8) → Option Nat
  | p, [] => some (p.getD 0)
  | p, w :: r => if (numL 1099511627776 w).ok = true ∧ (p = none ∨ p = some (numL 1099511627776 w).n) then lenR (some (numL 1099511627776 w).n) r else none
theorem lenR_cons (p : Option Nat) (w : List UInt8) (r : List (List UInt8)) : lenR p (w :: r) = if (numL 1099511627776 w).ok = true ∧ (p = none ∨ p = some (numL 1099511627776 w).n) then lenR (some (numL 1099511627776 w).n) r else none := by rw [lenR]
def lenW (ws : List (List UInt8)) : Len := match lenR none ws with
  | none => ⟨0, true, 32⟩
  | some n => if 1048576 < n then ⟨0, true, 3⟩ else ⟨n, true, 0⟩
def clS : ByteArray := ⟨#[67, 111, 110, 116, 101, 110, 116, 45, 76, 101, 110, 103, 116, 104]⟩
def lenS : Option (List (List UInt8)) → Len
  | none => ⟨0, true, 32⟩
  | some ws => if ws = [] then ⟨0, true, 32⟩ else lenW ws
def lenL (fs : List (ByteArray × ByteArray)) : Len := if getV clS fs = [] then ⟨0, false, 0⟩ else lenS (splitL (joinL (getV clS fs)))
theorem numL_le (M : Nat) : ∀ (l : List UInt8) (n : Nat), n ≤ M → numR M l n ≤ M
  | [], n, h => h
  | b :: r, n, h => by
    unfold numR
    split
    · exact Nat.le_refl _
    · exact numL_le M r _ (by omega)
structure FdOk (fs : List (ByteArray × ByteArray)) : Prop where
  nm : ∀ f ∈ fs, f.1.size ≤ 1048576
  n : fs.length ≤ 100000
  j : ∀ name, (joinL (getV name fs)).length ≤ 900000
set_option maxHeartbeats 8000000 in
theorem length_calls (ao : Option Addr) (n cap : Nat) (fs : List (ByteArray × ByteArray)) (w : World) (hF : Fds w ao n fs) (hO : FdOk fs) :
    Calls Tryd.prog 20 #[.slice ao n cap] w fun e w' => e = .returned (.tuple #[.int .i64 (lenL fs).n, .bool (lenL fs).has, .int .i64 (lenL fs).e]) ∧ Below w.heap.size w w' := by
  have GC := Lib.hid (get_calls ao n cap fs clS w hF hO.nm (by decide) (by have := hF.len; have := hO.n; omega) (by have := hO.j clS; omega))
  have HL : Hid (lenL fs = if getV clS fs = [] then ⟨0, false, 0⟩ else lenS (splitL (joinL (getV clS fs)))) := rfl
  have HJ := Lib.hid (hO.j clS)
  obtain ⟨L, hL⟩ : ∃ q, lenL fs = q := ⟨_, rfl⟩
  rw [hL] at HL ⊢
  obtain ⟨V, hV⟩ : ∃ q, getV clS fs = q := ⟨_, rfl⟩
  rw [hV] at GC HL HJ
  unfold clS at GC
  clear hF hO hL hV
  by_cases h0 : V = []
  · subst h0
    have hl : L = ⟨0, false, 0⟩ := by have h := HL.out; rw [if_pos rfl] at h; exact h
    subst hl
    clear HL HJ
    go_enter Tryd.func20, Tryd.ntmps20
    go_wp2_with fail
    refine (GC.out).mono ?_
    rintro e w1 ⟨rfl, b1⟩
    go_wp2_with fail
    go_ret3
    exact ⟨rfl, b1⟩
  have hvl : ¬ V.length = 0 := fun h => h0 (List.eq_nil_of_length_eq_zero h)
  have HL2 : Hid (L = lenS (splitL (joinL V))) := by have h := HL.out; rw [if_neg h0] at h; exact h
  obtain ⟨vn, hvn⟩ : ∃ q, V.length = q := ⟨_, rfl⟩
  rw [hvn] at GC hvl
  have v0 : ((vn : Int) == 0) = false := beq_eq_false_iff_ne.2 (by omega)
  have v0n : (vn == 0) = false := by simpa using hvl
  obtain ⟨J, hJ⟩ : ∃ q, joinL V = q := ⟨_, rfl⟩
  rw [hJ] at GC HL2 HJ
  have SPC := Lib.hid (fun (wq : World) (F : Asr) h => split_calls (sb J) (by rw [sb_size]; have := HJ.out; omega) F wq h)
  unfold SplitC at SPC
  rw [bl_sb] at SPC
  clear HL h0 hvn hJ
  cases hsp : splitL J with
  | none =>
    have hl : L = ⟨0, true, 32⟩ := by have h := HL2.out; rw [hsp] at h; exact h
    subst hl
    simp only [hsp] at SPC
    clear HL2 hsp
    go_enter Tryd.func20, Tryd.ntmps20
    go_wp2_with fail
    refine (GC.out).mono ?_
    rintro e w1 ⟨rfl, b1⟩
    have B1 := Lib.hid b1
    clear b1 GC
    go_wp2_with fail
    refine (SPC.out _ (all w1) (holds_all w1)).mono ?_
    rintro e w2 ⟨rfl, h2, s2⟩
    have B2 : Hid (Below w.heap.size w w2) := B1.out.trans ((Holds.below (A := emp) (by rw [emp_star]; exact h2) s2).mono B1.out.size)
    clear h2 s2 SPC
    go_wp2_with fail
    go_ret3
    exact ⟨rfl, B2.out⟩
  | some ws =>
    have HW := Lib.hid (split_ok hsp)
    simp only [hsp] at SPC
    have HL3 : Hid (L = if ws = [] then ⟨0, true, 32⟩ else lenW ws) := by
      have h := HL2.out
      rw [hsp] at h
      exact h
    clear HL2 hsp
    go_enter Tryd.func20, Tryd.ntmps20
    go_wp2_with fail
    refine (GC.out).mono ?_
    rintro e w1 ⟨rfl, b1⟩
    have B1 := Lib.hid b1
    clear b1 GC
    go_wp2_with fail
    refine (SPC.out _ (all w1) (holds_all w1)).mono ?_
    rintro e w2 ⟨a2, c2, cp2, rfl, h2, s2⟩
    have H2 := Lib.hid h2
    have S2 := Lib.hid s2
    clear h2 s2 SPC
    obtain ⟨m, hm⟩ : ∃ q, ws.length = q := ⟨_, rfl⟩
    rw [hm] at H2 ⊢
    have HM := Lib.hid hm
    by_cases hm0 : m = 0
    · have hl : L = ⟨0, true, 32⟩ := by
        have h := HL3.out
        rw [if_pos (List.eq_nil_of_length_eq_zero (by rw [hm]; exact hm0))] at h
        exact h
      have B2 : Hid (Below w.heap.size w w2) := B1.out.trans ((Holds.below H2.out S2.out).mono B1.out.size)
      subst hl
      have z0 : ((m : Int) == 0) = true := by rw [hm0]; rfl
      have z0n : (m == 0) = true := by rw [hm0]; rfl
      clear HL3 HW hm H2 S2 HM
      go_wp2_with fail
      go_ret3
      exact ⟨rfl, B2.out⟩
    · have z0 : ((m : Int) == 0) = false := beq_eq_false_iff_ne.2 (by omega)
      have z0n : (m == 0) = false := by simpa using hm0
      have HL4 : Hid (L = lenW ws) := by
        have h := HL3.out
        rw [if_neg (by intro e; rw [e] at hm; simp at hm; omega)] at h
        exact h
      have m9 : m ≤ 1000000 := by have h1 := HW.out.1; have h2 := HJ.out; omega
      clear HL3 hm
      go_wp2_with fail
      go_loopw [2, 34] (fun y x wl => ∃ i nn : Nat, x = .int .i64 i ∧ y = .int .i64 nn ∧ i ≤ m ∧ nn ≤ 1099511627776 ∧ Hid (lenR (if i = 0 then none else some nn) (ws.drop i) = lenR none ws) ∧ Hid (Holds wl (rowL 9 1 strE (.slice a2 m cp2) ws * all w1)) ∧ Hid (Sm w1 wl)) (fun _ x _ => m - (intOf x).toNat)
      case atStart => exact ⟨0, 0, rfl, rfl, Nat.zero_le _, by omega, rfl, H2.out, S2.out⟩
      case round =>
        clear H2 S2
        obtain ⟨i, nn, rfl, rfl, hi, hnn, HR, HH, HS⟩ := hrel
        by_cases him : i < m
        · have hiw : i < ws.length := by rw [HM.out]; exact him
          obtain ⟨g, cp3, e1, -, hg, hrc, -⟩ := rowL_cell HH.out strE_len i hiw
          rw [HM.out] at e1
          simp only [Value.slice.injEq, true_and] at e1
          obtain ⟨rfl, rfl⟩ := e1
          have c0 := hrc 0 (by omega)
          have hdr := List.drop_eq_getElem_cons hiw
          have hwl := HW.out.2 ws[i] (List.getElem_mem hiw)
          obtain ⟨wd, hwd⟩ : ∃ q, ws[i] = q := ⟨_, rfl⟩
          rw [hwd] at c0 hdr hwl
          simp only [strE, Nat.mul_one, Nat.add_zero, List.getElem?_cons_zero] at c0
          have NC := Lib.hid (number_calls (sb wd) 1099511627776 (by omega) (by rw [sb_size]; have := HJ.out; omega) wr)
          rw [bl_sb] at NC
          have hr := HR.out
          rw [hdr, lenR_cons] at hr
          have hnle : (numL 1099511627776 wd).n ≤ 1099511627776 := by
            unfold numL
            split
            · exact numL_le _ _ _ (by omega)
            · simp
          obtain ⟨⟨v, ok⟩, hnv⟩ : ∃ q, numL 1099511627776 wd = q := ⟨_, rfl⟩
          rw [hnv] at NC hr hnle
          simp only at NC hr hnle
          have HR2 := Lib.hid hr
          have i0 : (0 : Int) ≤ (i : Int) := by omega
          have i1 : (i : Int) < (m : Int) := by omega
          clear hrc hwd hdr hwl hnv hr
          have ERR : Hid (lenR none ws = none → L = ⟨0, true, 32⟩) := by intro h; rw [HL4.out]; unfold lenW; rw [h]
          cases ok with
          | false =>
            have hl : L = ⟨0, true, 32⟩ := ERR.out (by rw [← HR2.out, if_neg (by simp)])
            subst hl
            clear HR HR2 ERR HL4 hnle
            go_wp2_with fail
            refine (NC.out).mono ?_
            rintro e w3 ⟨rfl, b3⟩
            have B3 : Hid (Below w.heap.size w w3) := (B1.out.trans ((Holds.below HH.out HS.out).mono B1.out.size)).trans (b3.mono (Nat.le_trans B1.out.size (Holds.below HH.out HS.out).size))
            clear b3 NC
            go_wp2_with fail
            go_ret3
            exact ⟨rfl, B3.out⟩
          | true =>
            by_cases hok : i = 0 ∨ v = nn
            · have HN : Hid (lenR (if i + 1 = 0 then none else some v) (ws.drop (i + 1)) = lenR none ws) := by
                show _ = _
                rw [← HR2.out, if_neg (by omega), if_pos]
                refine ⟨rfl, ?_⟩
                by_cases h0 : i = 0
                · rw [if_pos h0]; exact .inl rfl
                · rw [if_neg h0]
                  rcases hok with h | h
                  · exact absurd h h0
                  · rw [h]; exact .inr rfl
              have fi : (decide ((0 : Int) < (i : Int)) && ((v : Int) != (nn : Int))) = false := by
                rcases hok with h | h
                · subst h; simp
                · subst h; simp
              by_cases h0 : i = 0
              · subst h0
                clear HR HR2 ERR hok fi
                go_wp2_with fail
                refine (NC.out).mono ?_
                rintro e w3 ⟨rfl, b3⟩
                have H3 := Lib.hid (HH.out.grow b3)
                have S3 := Lib.hid (HS.out.grow b3)
                clear b3 NC HH HS
                go_wp2_with fail
                go_roundw
                case rel => exact ⟨1, v, by go_num, rfl, by omega, hnle, HN.out, H3.out, S3.out⟩
                case measure => simp [intOf]; omega
              · have hv : v = nn := by rcases hok with h | h; exact absurd h h0; exact h
                subst hv
                have p0 : decide ((0 : Int) < (i : Int)) = true := by simp; omega
                have p0n : decide (0 < i) = true := by simp; omega
                have pe : ((v : Int) != (v : Int)) = false := by simp
                clear HR HR2 ERR hok fi
                go_wp2_with fail
                refine (NC.out).mono ?_
                rintro e w3 ⟨rfl, b3⟩
                have H3 := Lib.hid (HH.out.grow b3)
                have S3 := Lib.hid (HS.out.grow b3)
                clear b3 NC HH HS
                go_wp2_with fail
                go_roundw
                case rel => exact ⟨i + 1, v, by go_num, rfl, by omega, hnle, HN.out, H3.out, S3.out⟩
                case measure => simp [intOf]; omega
            · have hi0 : i ≠ 0 := fun h => hok (.inl h)
              have hvn : v ≠ nn := fun h => hok (.inr h)
              have hl : L = ⟨0, true, 32⟩ := ERR.out (by
                rw [← HR2.out, if_neg]
                rw [if_neg hi0]
                rintro ⟨-, h | h⟩
                · cases h
                · exact hvn (Option.some.inj h).symm)
              subst hl
              have p0 : decide ((0 : Int) < (i : Int)) = true := by simp; omega
              have p0n : decide (0 < i) = true := by simp; omega
              have pe : ((v : Int) != (nn : Int)) = true := by simp; omega
              have pen : (v != nn) = true := by simpa using hvn
              clear HR HR2 ERR HL4 hnle hok hi0 hvn
              go_wp2_with fail
              refine (NC.out).mono ?_
              rintro e w3 ⟨rfl, b3⟩
              have B3 : Hid (Below w.heap.size w w3) := (B1.out.trans ((Holds.below HH.out HS.out).mono B1.out.size)).trans (b3.mono (Nat.le_trans B1.out.size (Holds.below HH.out HS.out).size))
              clear b3 NC
              go_wp2_with fail
              go_ret3
              exact ⟨rfl, B3.out⟩
        · obtain rfl : i = m := by omega
          have hres : lenR none ws = some nn := by
            rw [← HR.out, if_neg (by omega), List.drop_of_length_le (by rw [HM.out]; exact Nat.le_refl _)]
            rfl
          have FIN : Hid (Below w.heap.size w wr) := B1.out.trans ((Holds.below HH.out HS.out).mono B1.out.size)
          by_cases hb : 1048576 < nn
          · have hl : L = ⟨0, true, 3⟩ := by rw [HL4.out]; unfold lenW; rw [hres]; simp only [if_pos hb]
            have e1 : decide ((1048576 : Int) < (nn : Int)) = true := by simp; omega
            have e1n : decide (1048576 < nn) = true := by simpa using hb
            subst hl
            clear HR HL4 hres HH HS
            go_wp2_with fail
            go_ret3
            exact ⟨rfl, FIN.out⟩
          · have hl : L = ⟨nn, true, 0⟩ := by rw [HL4.out]; unfold lenW; rw [hres]; simp only [if_neg hb]
            have e1 : decide ((1048576 : Int) < (nn : Int)) = false := by simp; omega
            have e1n : decide (1048576 < nn) = false := by simpa using hb
            subst hl
            clear HR HL4 hres HH HS
            go_wp2_with fail
            go_ret3
            exact ⟨rfl, FIN.out⟩
#print axioms length_calls
end Go.Proofs.YtefcinifaaablaaDoor.Tok
