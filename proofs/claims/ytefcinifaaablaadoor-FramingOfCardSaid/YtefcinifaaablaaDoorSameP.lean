/-
  FramingSame: plain facts.
-/
import Derived.Test.YtefcinifaaablaaDoorTok8
namespace Go.Proofs.YtefcinifaaablaaDoor.Tok
open Go.RowKit Go.Sep
set_option maxRecDepth 100000
set_option linter.unusedVariables false
set_option linter.unusedSimpArgs false

/-! ### decimal digits -/
def decF : Nat → Nat → List UInt8
  | 0, _ => []
  | f + 1, n => if n < 10 then [UInt8.ofNat (48 + n)] else decF f (n / 10) ++ [UInt8.ofNat (48 + n % 10)]
def decL (n : Nat) : List UInt8 := decF 7 n
def isDig (b : UInt8) : Prop := 48 ≤ b.toNat ∧ b.toNat ≤ 57
theorem dig_nat (d : Nat) (h : d < 10) : (UInt8.ofNat (48 + d)).toNat = 48 + d := by
  simp [UInt8.toNat_ofNat']; omega
theorem decF_dig : ∀ (f n : Nat), ∀ b ∈ decF f n, isDig b
  | 0, n, b, h => by simp [decF] at h
  | f + 1, n, b, h => by
    unfold decF at h
    split at h
    · rw [List.mem_singleton.1 h]; unfold isDig; rw [dig_nat _ (by omega)]; omega
    · rcases List.mem_append.1 h with h | h
      · exact decF_dig f _ b h
      · rw [List.mem_singleton.1 h]; unfold isDig; rw [dig_nat _ (Nat.mod_lt _ (by omega))]; omega
theorem decF_ne : ∀ (f n : Nat), 0 < f → decF f n ≠ []
  | f + 1, n, _ => by unfold decF; split <;> simp
theorem decF_len : ∀ (f n : Nat), (decF f n).length ≤ f
  | 0, n => by simp [decF]
  | f + 1, n => by
    unfold decF
    split
    · simp
    · have := decF_len f (n / 10); simp; omega
theorem decF_num (M : Nat) (hM : 2097152 * 10 ≤ M) : ∀ (f n : Nat) (r : List UInt8), n < 10 ^ f → n < 2097152 → numR M (decF f n ++ r) 0 = numR M r n
  | 0, n, r, h, _ => by
    have : n = 0 := by simpa using h
    subst this; rfl
  | f + 1, n, r, h, h9 => by
    unfold decF
    split
    · rename_i h1
      show numR M (UInt8.ofNat (48 + n) :: r) 0 = _
      rw [numR, dig_nat n h1, if_neg (by omega)]
      congr 1
      omega
    · rename_i h1
      rw [List.append_assoc, decF_num M hM f (n / 10) _ (by rw [Nat.pow_succ] at h; omega) (by omega)]
      show numR M (UInt8.ofNat (48 + n % 10) :: r) (n / 10) = _
      rw [numR, dig_nat (n % 10) (Nat.mod_lt _ (by omega)), if_neg (by omega)]
      congr 1
      omega
theorem dec_all {l : List UInt8} (h : ∀ b ∈ l, isDig b) (hn : l ≠ []) : digL l = true := by
  unfold digL
  have : l.isEmpty = false := by cases l; exact absurd rfl hn; rfl
  rw [this]
  simp only [Bool.not_false, Bool.true_and, List.all_eq_true]
  intro b hb
  have := h b hb
  unfold isDig at this
  simp [digK, this]
theorem dec_num (n : Nat) (h : n < 2097152) : numL 1099511627776 (decL n) = ⟨n, true⟩ := by
  unfold numL
  rw [if_pos (show digL (decL n) = true from dec_all (decF_dig 7 n) (decF_ne 7 n (by omega)))]
  have := decF_num 1099511627776 (by omega) 7 n [] (by omega) h
  rw [List.append_nil] at this
  unfold decL
  rw [this]
  rfl
theorem dec_num0 (n : Nat) (h : n < 2097152) : numL 1099511627776 (48 :: decL n) = ⟨n, true⟩ := by
  unfold numL
  rw [if_pos (dec_all (l := 48 :: decL n) (fun b hb => by
    rcases List.mem_cons.1 hb with rfl | hb
    · exact ⟨by decide, by decide⟩
    · exact decF_dig 7 n b hb) (by simp))]
  have := decF_num 1099511627776 (by omega) 7 n [] (by omega) h
  rw [List.append_nil] at this
  rw [numR, if_neg (by decide)]
  show (⟨numR _ (decF 7 n) (10 * 0 + 0), true⟩ : Num) = _
  rw [show 10 * 0 + 0 = 0 from rfl, this]
  rfl
/-! ### splitting -/
theorem sp_digs : ∀ (d own : List UInt8) (out : List (List UInt8)), (∀ b ∈ d, isDig b ∨ b = 32) → d.foldl spStep ⟨own, false, false, out⟩ = ⟨own ++ d, false, false, out⟩
  | [], own, out, _ => by simp
  | b :: d, own, out, h => by
    have hb := h b (List.mem_cons_self ..)
    have e : spStep ⟨own, false, false, out⟩ b = ⟨own ++ [b], false, false, out⟩ := by
      have h1 : ¬ b = 34 := by rintro rfl; rcases hb with h | h; · exact absurd h.1 (by decide)
                               · exact absurd h (by decide)
      have h2 : ¬ b = 44 := by rintro rfl; rcases hb with h | h; · exact absurd h.1 (by decide)
                               · exact absurd h (by decide)
      unfold spStep
      simp [h1, h2]
    rw [List.foldl_cons, e, sp_digs d _ _ fun x hx => h x (List.mem_cons_of_mem _ hx)]
    simp
theorem dropWhile_dig {l : List UInt8} (h : ∀ b ∈ l, isDig b) : l.dropWhile (fun x => [32, 9].contains x) = l := by
  cases l with
  | nil => rfl
  | cons b r =>
    have hb := h b (List.mem_cons_self ..)
    rw [List.dropWhile_cons_of_neg]
    intro hc
    have : b = 32 ∨ b = 9 := by simpa using hc
    rcases this with rfl | rfl <;> exact absurd hb.1 (by decide)
theorem trim_dig {l : List UInt8} (h : ∀ b ∈ l, isDig b) : trimL l = l := by
  unfold trimL Go.Lib.trimS Go.Lib.trimLeftS Go.Lib.trimRightS
  rw [dropWhile_dig (l := l.reverse) (fun b hb => h b (List.mem_reverse.1 hb)), List.reverse_reverse, dropWhile_dig h]
theorem trim_sp {l : List UInt8} (h : ∀ b ∈ l, isDig b) : trimL (32 :: l) = l := by
  unfold trimL Go.Lib.trimS Go.Lib.trimLeftS Go.Lib.trimRightS
  by_cases hl : l = []
  · subst hl; rfl
  · have e : ((32 :: l).reverse.dropWhile fun x => [32, 9].contains x) = (32 :: l).reverse := by
      have hr : l.reverse ≠ [] := by simpa using hl
      obtain ⟨b, r, hbr⟩ := List.exists_cons_of_ne_nil hr
      rw [List.reverse_cons, hbr, List.cons_append, List.dropWhile_cons_of_neg]
      intro hc
      have hb : isDig b := h b (by rw [← List.mem_reverse, hbr]; exact List.mem_cons_self ..)
      have : b = 32 ∨ b = 9 := by simpa using hc
      rcases this with rfl | rfl <;> exact absurd hb.1 (by decide)
    rw [e, List.reverse_reverse]
    rw [List.dropWhile_cons_of_pos (by decide)]
    exact dropWhile_dig h
theorem split_two {a b : List UInt8} (ha : ∀ x ∈ a, isDig x) (hb : ∀ x ∈ b, isDig x) (a0 : a ≠ []) (b0 : b ≠ []) : splitL (a ++ [44, 32] ++ b) = some [a, b] := by
  have e : spL (a ++ [44, 32] ++ b) = ⟨32 :: b, false, false, [a]⟩ := by
    unfold spL
    rw [List.append_assoc, List.foldl_append, sp_digs a [] [] fun x hx => .inl (ha x hx), List.nil_append]
    show (32 :: b).foldl spStep (spStep ⟨a, false, false, []⟩ 44) = _
    have e1 : spStep ⟨a, false, false, []⟩ 44 = ⟨[], false, false, [a]⟩ := by
      unfold spStep addW
      rw [trim_dig ha]
      simp [a0]
    rw [e1, sp_digs (32 :: b) [] [a] fun x hx => by
      rcases List.mem_cons.1 hx with rfl | hx
      · exact .inr rfl
      · exact .inl (hb x hx)]
    rfl
  unfold splitL
  rw [e]
  show (if false = true then none else some (addW [a] (32 :: b))) = _
  rw [if_neg (by simp)]
  unfold addW
  rw [trim_sp hb, if_neg b0]
  rfl

/-! ### the law's fields -/
def cl2S : ByteArray := ⟨#[99, 111, 110, 116, 101, 110, 116, 45, 108, 101, 110, 103, 116, 104]⟩
def chS : ByteArray := ⟨#[99, 104, 117, 110, 107, 101, 100]⟩
def fsA (n m : Nat) : List (ByteArray × ByteArray) := [(clS, sb (decL n)), (cl2S, sb (decL m))]
def fsB (n m : Nat) : List (ByteArray × ByteArray) := [(clS, sb (decL n ++ [44, 32, 48] ++ decL m))]
def teF : ByteArray × ByteArray := (teS, chS)
theorem s1 : sameB clS clS = true := by decide
theorem s2 : sameB cl2S clS = true := by decide
theorem s3 : sameB teS clS = false := by decide
theorem s4 : sameB clS teS = false := by decide
theorem s5 : sameB cl2S teS = false := by decide
theorem s6 : sameB teS teS = true := by decide
theorem lenW_two {a b : List UInt8} {n m : Nat} (ha : numL 1099511627776 a = ⟨n, true⟩) (hb : numL 1099511627776 b = ⟨m, true⟩) : lenW [a, b] = if n ≠ m then ⟨0, true, 32⟩ else if 1048576 < n then ⟨0, true, 3⟩ else ⟨n, true, 0⟩ := by
  unfold lenW
  rw [lenR_cons, ha, if_pos ⟨rfl, .inl rfl⟩, lenR_cons, hb]
  by_cases h : n = m
  · subst h
    rw [if_pos ⟨rfl, .inr rfl⟩, if_neg (by simp)]
    rfl
  · rw [if_neg (by rintro ⟨-, h1 | h1⟩; · cases h1
                   · exact h (Option.some.inj h1)), if_pos h]
theorem splitA (n m : Nat) : splitL (decL n ++ [44, 32] ++ decL m) = some [decL n, decL m] := split_two (decF_dig 7 n) (decF_dig 7 m) (decF_ne 7 n (by omega)) (decF_ne 7 m (by omega))
theorem splitB (n m : Nat) : splitL (decL n ++ [44, 32, 48] ++ decL m) = some [decL n, 48 :: decL m] := by
  have := split_two (a := decL n) (b := 48 :: decL m) (decF_dig 7 n) (fun x hx => by
    rcases List.mem_cons.1 hx with rfl | hx
    · exact ⟨by decide, by decide⟩
    · exact decF_dig 7 m x hx) (decF_ne 7 n (by omega)) (by simp)
  rw [← this]
  simp
theorem getA (n m : Nat) (x : List (ByteArray × ByteArray)) (hx : x = [] ∨ x = [teF]) : getV clS (fsA n m ++ x) = [decL n, decL m] := by
  unfold getV fsA
  rcases hx with rfl | rfl <;> simp [s1, s2, s3, teF, bl_sb]
theorem getB (n m : Nat) (x : List (ByteArray × ByteArray)) (hx : x = [] ∨ x = [teF]) : getV clS (fsB n m ++ x) = [decL n ++ [44, 32, 48] ++ decL m] := by
  unfold getV fsB
  rcases hx with rfl | rfl <;> simp [s1, s3, teF, bl_sb]
def lenNM (n m : Nat) : Len := if n ≠ m then ⟨0, true, 32⟩ else if 1048576 < n then ⟨0, true, 3⟩ else ⟨n, true, 0⟩
theorem lenA (n m : Nat) (hn : n < 2097152) (hm : m < 2097152) (x : List (ByteArray × ByteArray)) (hx : x = [] ∨ x = [teF]) : lenL (fsA n m ++ x) = lenNM n m := by
  unfold lenL
  rw [getA n m x hx, if_neg (by simp)]
  have : joinL [decL n, decL m] = decL n ++ [44, 32] ++ decL m := by unfold joinL; rw [Go.Lib.join_cons]; simp [Go.Lib.joinTail]
  rw [this, splitA]
  have hS : ∀ ws : List (List UInt8), ws ≠ [] → lenS (some ws) = lenW ws := fun ws h => by show (if ws = [] then _ else lenW ws) = _; rw [if_neg h]
  rw [hS _ (by simp)]
  exact lenW_two (dec_num n hn) (dec_num m hm)
theorem lenB (n m : Nat) (hn : n < 2097152) (hm : m < 2097152) (x : List (ByteArray × ByteArray)) (hx : x = [] ∨ x = [teF]) : lenL (fsB n m ++ x) = lenNM n m := by
  unfold lenL
  rw [getB n m x hx, if_neg (by simp)]
  have : joinL [decL n ++ [44, 32, 48] ++ decL m] = decL n ++ [44, 32, 48] ++ decL m := by unfold joinL; rw [Go.Lib.join_one]
  rw [this, splitB]
  have hS : ∀ ws : List (List UInt8), ws ≠ [] → lenS (some ws) = lenW ws := fun ws h => by show (if ws = [] then _ else lenW ws) = _; rw [if_neg h]
  rw [hS _ (by simp)]
  exact lenW_two (dec_num n hn) (dec_num0 m hm)
def frmNM (n m : Nat) : Frm := if n ≠ m then ⟨0, 0, 32⟩ else if 1048576 < n then ⟨0, 0, 3⟩ else ⟨1, n, 0⟩
theorem frm_of {fs : List (ByteArray × ByteArray)} {n m : Nat} (h : lenL fs = lenNM n m) (ht : getV teS fs = []) : frmL 1 fs 0 = frmNM n m := by
  unfold frmL
  rw [ht, h, if_neg (by simp)]
  unfold lenNM frmNM
  by_cases h1 : n ≠ m
  · rw [if_pos h1, if_pos h1]; simp
  · rw [if_neg h1, if_neg h1]
    by_cases h2 : 1048576 < n
    · rw [if_pos h2, if_pos h2]; simp
    · rw [if_neg h2, if_neg h2]; simp
theorem frm_te {fs : List (ByteArray × ByteArray)} {n m : Nat} (h : lenL fs = lenNM n m) (ht : getV teS fs ≠ []) : frmL 1 fs 0 = ⟨0, 0, 32⟩ := by
  unfold frmL
  rw [if_pos ht, h, if_pos]
  right; left
  unfold lenNM
  split
  · rfl
  · split <;> rfl
theorem frmA (n m : Nat) (hn : n < 2097152) (hm : m < 2097152) : frmL 1 (fsA n m) 0 = frmNM n m := by
  have := lenA n m hn hm [] (.inl rfl)
  rw [List.append_nil] at this
  exact frm_of this (by unfold getV fsA; simp [s4, s5])
theorem frmB (n m : Nat) (hn : n < 2097152) (hm : m < 2097152) : frmL 1 (fsB n m) 0 = frmNM n m := by
  have := lenB n m hn hm [] (.inl rfl)
  rw [List.append_nil] at this
  exact frm_of this (by unfold getV fsB; simp [s4])
theorem frmA2 (n m : Nat) (hn : n < 2097152) (hm : m < 2097152) : frmL 1 (fsA n m ++ [teF]) 0 = ⟨0, 0, 32⟩ :=
  frm_te (lenA n m hn hm [teF] (.inr rfl)) (by unfold getV fsA teF; simp [s4, s5, s6])
theorem frmB2 (n m : Nat) (hn : n < 2097152) (hm : m < 2097152) : frmL 1 (fsB n m ++ [teF]) 0 = ⟨0, 0, 32⟩ :=
  frm_te (lenB n m hn hm [teF] (.inr rfl)) (by unfold getV fsB teF; simp [s4, s6])
theorem joinL_le : ∀ (ws : List (List UInt8)) (k : Nat), (∀ w ∈ ws, w.length ≤ k) → (joinL ws).length ≤ ws.length * (k + 2)
  | [], k, _ => by simp [joinL, Go.Lib.join_nil]
  | w :: r, k, h => by
    unfold joinL
    rw [Go.Lib.join_length]
    have : ∀ (l : List (List UInt8)), (∀ w ∈ l, w.length ≤ k) → Go.Lib.lens l ≤ l.length * k := by
      intro l
      induction l with
      | nil => intro _; simp [Go.Lib.lens]
      | cons x l ih =>
        intro hh
        have h1 := ih fun y hy => hh y (List.mem_cons_of_mem _ hy)
        have h2 := hh x (List.mem_cons_self ..)
        have : Go.Lib.lens (x :: l) = x.length + Go.Lib.lens l := by simp [Go.Lib.lens]
        rw [this, List.length_cons, Nat.add_mul]
        omega
    have h1 := this (w :: r) h
    rw [List.length_cons] at h1 ⊢
    rw [Nat.mul_add]
    show [44, 32].length * r.length + _ ≤ _
    simp only [List.length_cons, List.length_nil]
    omega
theorem fdok {fs : List (ByteArray × ByteArray)} (h1 : ∀ f ∈ fs, f.1.size ≤ 100 ∧ f.2.size ≤ 100) (h2 : fs.length ≤ 3) : FdOk fs :=
  ⟨fun f hf => by have := (h1 f hf).1; omega, by omega, fun name => by
    have hl : (getV name fs).length ≤ fs.length := by unfold getV; rw [List.length_map]; exact List.length_filter_le _ _
    have := joinL_le (getV name fs) 100 (fun w hw => by
      unfold getV at hw
      obtain ⟨f, hf, rfl⟩ := List.mem_map.1 hw
      rw [bl_len]
      exact (h1 f (List.mem_filter.1 hf).1).2)
    have : (getV name fs).length * (100 + 2) ≤ 3 * 102 := Nat.mul_le_mul_right _ (by omega)
    omega⟩
theorem decS (n : Nat) : (sb (decL n)).size ≤ 7 := by rw [sb_size]; exact decF_len 7 n
theorem okA (n m : Nat) (x : List (ByteArray × ByteArray)) (hx : x = [] ∨ x = [teF]) : FdOk (fsA n m ++ x) := by
  refine fdok (fun f hf => ?_) (by unfold fsA; rcases hx with rfl | rfl <;> simp)
  have h1 := decS n
  have h2 := decS m
  unfold fsA at hf
  rcases hx with rfl | rfl
  · simp at hf
    rcases hf with rfl | rfl
    · exact ⟨by show clS.size ≤ 100; decide, by simp only; omega⟩
    · exact ⟨by show cl2S.size ≤ 100; decide, by simp only; omega⟩
  · simp at hf
    rcases hf with rfl | rfl | rfl
    · exact ⟨by show clS.size ≤ 100; decide, by simp only; omega⟩
    · exact ⟨by show cl2S.size ≤ 100; decide, by simp only; omega⟩
    · exact ⟨by decide, by decide⟩
theorem okB (n m : Nat) (x : List (ByteArray × ByteArray)) (hx : x = [] ∨ x = [teF]) : FdOk (fsB n m ++ x) := by
  refine fdok (fun f hf => ?_) (by unfold fsB; rcases hx with rfl | rfl <;> simp)
  have h1 : (decL n).length ≤ 7 := decF_len 7 n
  have h2 : (decL m).length ≤ 7 := decF_len 7 m
  have h3 : (sb (decL n ++ [44, 32, 48] ++ decL m)).size ≤ 100 := by rw [sb_size]; simp; omega
  unfold fsB at hf
  rcases hx with rfl | rfl
  · simp at hf
    subst hf
    exact ⟨by show clS.size ≤ 100; decide, by simpa using h3⟩
  · simp at hf
    rcases hf with rfl | rfl
    · exact ⟨by show clS.size ≤ 100; decide, by simpa using h3⟩
    · exact ⟨by decide, by decide⟩
#print axioms frmA2
#print axioms frmB
#print axioms okB
end Go.Proofs.YtefcinifaaablaaDoor.Tok
