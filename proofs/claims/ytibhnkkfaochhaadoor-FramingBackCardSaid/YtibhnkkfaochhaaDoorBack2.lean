/-
  FramingBack: append of bytes, Chunk at bytes, piece.
-/
import Derived.Test.YtibhnkkfaochhaaDoorBack1
import Derived.Test.YtibhnkkfaochhaaDoorFrRef
import Derived.Deep.Upon
namespace Go.Proofs.YtibhnkkfaochhaaDoor.Dec
open Go.RowKit Go.Sep
open Go.Proofs.YtibhnkkfaochhaaDoor.Tok
open Go.Proofs.YtibhnkkfaochhaaDoor.Fr (hexL dg u8s chunk_calls last_calls)
set_option maxRecDepth 100000
set_option linter.unusedVariables false
set_option linter.unusedSimpArgs false

section
variable {ops : Array Oper} {rest : List Oper} {o : Oper} {a : Act} {Q : Exit → Act → World → Prop} {w : World}
theorem wpList_append_bs (hgd : o.guard = none) (s x : Operand) (ho : o.op = .call { callee := .builtin .append, args := #[s, x], argTypes := #[22, 22] })
    {v : Value} {G b : List UInt8} {F : Asr} (hs : a.eval s = v) (h : Holds w (rowA 5 1 v G.length (bc G) * F))
    (so : Option Addr) (m c : Nat) (hx : a.eval x = .slice so m c) (hl : b.length = m) (hc : 0 < m → ∃ ad, so = some ad ∧ ∀ j u, (bc b)[j]? = some u → w.cell? (ad.add j) = some u) (h9 : G.length + m ≤ 1048576)
    (hk : ∀ v' w' G', Hid (G' = G ++ b) → Holds w' (rowA 5 1 v' G'.length (bc G') * F) → Sm w w' → wpList Tryd.prog ops Q rest (a.put o.dst v') w') : wpList Tryd.prog ops Q (o :: rest) a w := by
  rcases Nat.eq_zero_or_pos m with h0 | h0
  · subst h0
    have hb := List.eq_nil_of_length_eq_zero hl
    subst hb
    obtain ⟨ao, cap, rfl, hle⟩ := rowA_slice h
    obtain ⟨i, hi, hz, hs1, hb1⟩ := info_parts (P := Tryd.prog) infoB
    have src : Go.Src Tryd.prog i.size 22 (.slice so 0 c) 0 [] w := by
      cases so with
      | none => exact Go.Src.ofNil w Tryd.underlying22 c
      | some ad => exact Go.Src.ofSlice w Tryd.underlying22 ad 0 c [] (by simp) (by simp) (by simp)
    refine wpList_append_run hgd s x _ ho _ w ?_ (hk _ w G (by show _ = _; rw [List.append_nil]) h (Sm.refl w))
    rw [hx, hs]
    exact run_append_nothing (P := Tryd.prog) w 22 22 o.type 5 i Tryd.underlying22 hi ao G.length cap hle (.slice so 0 c) src
  · obtain ⟨ad, rfl, hcell⟩ := hc h0
    refine wpList_append_sep hgd s x 22 ho 5 (.int .u8 0) 1 1 Tryd.underlying22 infoB rfl hs h ad m c (bc b) hx (by rw [bc_len, Nat.mul_one]; exact hl) hcell bc_one (by unfold maxLen; omega) (by omega) ?_
    intro v' w' h2 s2 _
    refine hk v' w' (G ++ b) rfl ?_ s2
    rw [bc_app, ← hl, ← List.length_append] at h2
    exact h2
end
theorem bys_cells {w : World} {a : Option Addr} {n c : Nat} {b : List UInt8} (h : ByS w a n c b) {A : Asr} {wq : World} (hq : Holds wq (A * all w)) : 0 < n → ∃ ad, a = some ad ∧ ∀ j u, (bc b)[j]? = some u → wq.cell? (ad.add j) = some u := by
  intro h0
  obtain ⟨g, o, e, k⟩ := h.cell h0
  refine ⟨_, e, fun j u hu => ?_⟩
  have hj : j < b.length := by have := (List.getElem?_eq_some_iff.1 hu).1; rwa [bc_len] at this
  rw [Addr.add_lit, all_cell hq (k j hj)]
  simp [bc, hj] at hu
  rw [← hu]
theorem row_cells {w : World} {v : Value} {b : List UInt8} {F : Asr} (h : Holds w (rowA 5 1 v b.length (bc b) * F)) : ∃ so c, v = .slice so b.length c ∧ b.length ≤ c ∧ (0 < b.length → ∃ ad, so = some ad ∧ ∀ j u, (bc b)[j]? = some u → w.cell? (ad.add j) = some u) := by
  obtain ⟨so, c, rfl, hle⟩ := rowA_slice h
  refine ⟨so, c, rfl, hle, fun h0 => ?_⟩
  obtain ⟨g, cp, e, -, -, hc, -⟩ := rowA_cell h h0
  simp only [Value.slice.injEq, true_and] at e
  refine ⟨_, e.1, fun j u hu => ?_⟩
  have hj : j < b.length := by have := (List.getElem?_eq_some_iff.1 hu).1; rwa [bc_len] at this
  rw [Addr.add_lit, Nat.zero_add, hc j (by omega)]
  exact hu
/-- bytes of a row that is held -/
theorem row_src {v : Value} {g n c : Nat} {b : List UInt8} {F : Asr} (e : v = .slice (some ⟨g, 0, none⟩) n c) (hn : b.length = n) (i k : Nat) (hk : i + k ≤ n) : SrcB (rowA 5 1 v b.length (bc b) * F) (some ⟨g, i, none⟩) k ((b.drop i).take k) := by
  refine ⟨by simp; omega, fun h0 => ⟨g, i, rfl, fun A wq hq j hj => ?_⟩⟩
  have hq2 : Holds wq (rowA 5 1 v b.length (bc b) * (A * F)) := hq.eqv (star_left_comm _ _ _)
  simp at hj
  obtain ⟨g2, c2, e2, -, -, hc, -⟩ := rowA_cell hq2 (by omega)
  rw [e] at e2
  simp only [Value.slice.injEq, Option.some.injEq, Addr.mk.injEq, and_true, true_and] at e2
  obtain ⟨rfl, -, rfl⟩ := e2
  rw [hc (i + j) (by omega)]
  simp [bc, show i + j < b.length by omega]
def RowB (b : List UInt8) (F : Asr) (w : World) (e : Ending) (w' : World) : Prop := ∃ v, e = .returned v ∧ Holds w' (rowA 5 1 v b.length (bc b) * F) ∧ Sm w w'
theorem chunk0_calls (a : Option Addr) (c : Nat) (w : World) : Calls Tryd.prog 12 #[.slice a 0 c] w fun e w' => e = .returned (.slice none 0 0) ∧ w' = w := by
  go_enter Tryd.func12, Tryd.ntmps12
  go_wp2_with fail
  go_ret
  exact ⟨rfl, rfl⟩
def i8 (b : List UInt8) : List Int := b.map fun c => (c.toNat : Int)
theorem u8s_i8 (b : List UInt8) : u8s (i8 b) = bc b := by simp [u8s, i8, bc]
theorem i8_hex (n : Nat) (h : ∀ z ∈ hexL 4 n, 0 ≤ z ∧ z < 256) : hexL 4 n = i8 (hexC n) := by
  unfold i8 hexC
  rw [List.map_map]
  conv => lhs; rw [← List.map_id (hexL 4 n)]
  refine List.map_congr_left fun z hz => ?_
  have := h z hz
  simp only [id, Function.comp, UInt8.toNat_ofNat']
  omega
theorem chunkb_calls (a : Option Addr) (n c : Nat) (p : List UInt8) (w0 : World) (hp : ByS w0 a n c p) (n9 : n ≤ 300) (A : Asr) (w : World) (hT : w0.cell? ⟨5, 15, none⟩ = some (.int .u8 4)) (hw : Holds w (A * all w0)) :
    Calls Tryd.prog 12 #[.slice a n c] w (RowB (chunkB p) (A * all w0) w) := by
  rcases Nat.eq_zero_or_pos n with h0 | h0
  · subst h0
    have hb := List.eq_nil_of_length_eq_zero hp.len
    subst hb
    refine (chunk0_calls a c w).mono ?_
    rintro e w' ⟨rfl, rfl⟩
    exact ⟨_, rfl, rowA_nil hw, Sm.refl _⟩
  · obtain ⟨g, o, rfl, k⟩ := hp.cell h0
    have hl := hp.len
    have hne : p ≠ [] := by intro h; subst h; simp at hl; omega
    have t := chunk_calls ⟨g, o, none⟩ n c (i8 p) (by simp [i8, hl]) h0 (by omega) (A * all w0) w (fun wq G hq i v hv => by
      rw [u8s_i8] at hv
      obtain ⟨ad, e, q⟩ := bys_cells hp (A := G * A) (hq.eqv (star_assoc _ _ _).symm) h0
      cases e
      exact q i v hv) (all_cell hw hT) hw
    refine t.mono ?_
    rintro e w' ⟨v, rfl, h1, s1⟩
    refine ⟨v, rfl, ?_, s1⟩
    have hx := hex_facts n (by omega) h0
    have e1 : hexL 4 n ++ [13, 10] ++ i8 p ++ [13, 10] = i8 (chunkB p) := by
      rw [i8_hex n (fun z hz => by have := List.all_eq_true.1 hx.2.2.2 z hz; simpa using this)]
      unfold chunkB
      rw [if_neg hne, hl]
      simp [i8]
    rw [e1, u8s_i8] at h1
    simpa [i8] using h1
def PieC (i at_ L cl : Nat) (w : World) (e : Ending) (w' : World) : Prop := ∃ k : Nat, e = .returned (.int .i64 ((at_ + k : Nat) : Int)) ∧ at_ + k ≤ L ∧ (cl ≤ i → at_ + k = L) ∧ w' = w
theorem piece_calls (ao : Option Addr) (cl cc : Nat) (zs : List Int) (w0 : World) (hz : IsRow .i64 w0 ao cl cc zs) (i at_ L : Nat) (h9 : L ≤ 1048576) (hat : at_ ≤ L) (hi : i ≤ cl) (A : Asr) (w : World) (hw : Holds w (A * all w0)) :
    Calls Tryd.prog 14 #[.slice ao cl cc, .int .i64 i, .int .i64 at_, .int .i64 L] w (PieC i at_ L cl w) := by
  have a1 : IntKind.i64.wrap ((L : Int) - (at_ : Int)) = ((L - at_ : Nat) : Int) := by rw [IntWalk.i64_in _ (by omega)]; omega
  have a2 : IntKind.i64.wrap ((at_ : Int) + ((L - at_ : Nat) : Int)) = (L : Int) := by rw [IntWalk.i64_in _ (by omega)]; omega
  have hcl : cl ≤ maxLen := by
    rcases hz with ⟨-, h, -, -⟩ | ⟨ad, -, h1, h2, -⟩
    · omega
    · omega
  unfold maxLen at hcl
  obtain ⟨m, hm⟩ : ∃ m, L - at_ = m := ⟨_, rfl⟩
  rw [hm] at a1 a2
  by_cases hlt : i < cl
  · rcases hz with ⟨-, h, -, -⟩ | ⟨ad, rfl, h1, h2, h3, h4, -⟩
    · omega
    have c0 := all_cell hw (h4 i (by omega))
    obtain ⟨z, hz⟩ : ∃ z, zs.getD i 0 = z := ⟨_, rfl⟩
    rw [hz] at c0
    obtain ⟨k, hk, k9, -⟩ := and_lo 10 (by decide) z
    simp only [show (2 ^ 10 - 1 : Nat) = 1023 from rfl, show (2 ^ 10 : Nat) = 1024 from rfl] at hk k9
    replace hk : bits .and .i64 z 1023 = k := hk
    have t1 : decide ((i : Int) < (cl : Int)) = true := decide_eq_true (by omega)
    have t2 : decide (i < cl) = true := decide_eq_true hlt
    have i0 : (0 : Int) ≤ (i : Int) := by omega
    have i1 : (i : Int) < (cl : Int) := by omega
    by_cases hkm : k < m
    · have t3 : decide ((k : Int) < (m : Int)) = true := decide_eq_true (by omega)
      have t4 : decide (k < m) = true := decide_eq_true hkm
      have a3 : IntKind.i64.wrap ((at_ : Int) + (k : Int)) = ((at_ + k : Nat) : Int) := by rw [IntWalk.i64_in _ (by omega)]; omega
      have FIN : Hid (PieC i at_ L cl w (.returned (.int .i64 ((at_ + k : Nat) : Int))) w) := ⟨k, rfl, by omega, by omega, rfl⟩
      clear hw hz h3 h4 hm h9 hat
      go_enter Tryd.func14, Tryd.ntmps14
      go_wp2_with fail
      go_ret
      exact FIN.out
    · have t3 : decide ((k : Int) < (m : Int)) = false := decide_eq_false (by omega)
      have t4 : decide (k < m) = false := decide_eq_false hkm
      have FIN : Hid (PieC i at_ L cl w (.returned (.int .i64 (L : Int))) w) := ⟨m, by rw [← hm, show at_ + (L - at_) = L by omega], by omega, by omega, rfl⟩
      clear hw hz h3 h4 hm h9 hat
      go_enter Tryd.func14, Tryd.ntmps14
      go_wp2_with fail
      go_ret
      exact FIN.out
  · have t1 : decide ((i : Int) < (cl : Int)) = false := decide_eq_false (by omega)
    have t2 : decide (i < cl) = false := decide_eq_false hlt
    have FIN : Hid (PieC i at_ L cl w (.returned (.int .i64 (L : Int))) w) := ⟨m, by rw [← hm, show at_ + (L - at_) = L by omega], by omega, by omega, rfl⟩
    clear hw hz hm h9 hat
    go_enter Tryd.func14, Tryd.ntmps14
    go_wp2_with fail
    go_ret
    exact FIN.out
#print axioms chunkb_calls
#print axioms piece_calls
end Go.Proofs.YtibhnkkfaochhaaDoor.Dec
