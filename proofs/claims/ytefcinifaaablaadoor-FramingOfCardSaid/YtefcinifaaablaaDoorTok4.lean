/-
  Layer 1: Split.
-/
import Derived.Test.YtefcinifaaablaaDoorTok3
import Derived.Deep.DeepCutAuto
import Derived.Deep.CutBlock
namespace Go.Proofs.YtefcinifaaablaaDoor.Tok
open Go.RowKit Go.Sep
set_option maxRecDepth 100000
set_option linter.unusedVariables false
set_option linter.unusedSimpArgs false

structure Sp where
  own : List UInt8
  q : Bool
  e : Bool
  out : List (List UInt8)
def addW (out : List (List UInt8)) (own : List UInt8) : List (List UInt8) := if trimL own = [] then out else out ++ [trimL own]
def spStep (s : Sp) (c : UInt8) : Sp :=
  if s.e then ⟨s.own ++ [c], s.q, false, s.out⟩
  else if c = 34 then ⟨s.own ++ [c], !s.q, false, s.out⟩
  else if s.q && decide (c = 92) then ⟨s.own ++ [c], s.q, true, s.out⟩
  else if !s.q && decide (c = 44) then ⟨[], s.q, false, addW s.out s.own⟩
  else ⟨s.own ++ [c], s.q, false, s.out⟩
def spL (l : List UInt8) : Sp := l.foldl spStep ⟨[], false, false, []⟩
def splitL (l : List UInt8) : Option (List (List UInt8)) := if (spL l).q then none else some (addW (spL l).out (spL l).own)
def strE (l : List UInt8) : List Value := [.string (sb l)]
theorem strE_len (l : List UInt8) : (strE l).length = 1 := rfl
theorem infoS : (Tryd.prog.info? 9).map (fun i => (i.zero, i.size, i.bytes)) = some (some (.string ⟨#[]⟩), 1, 16) := by kernel_rfl
theorem bl_ext (s : ByteArray) (a b : Nat) : bl (s.extract a b) = ((bl s).drop a).take (b - a) := by
  simp [bl, ByteArray.data_extract, Array.toList_extract, List.extract_eq_take_drop]
def spW (b1 b5 b4 : Nat) (s : ByteArray) (frm : Nat) (v : Value) (out : List (List UInt8)) : Asr :=
  pts b1 (.cells #[.string s] 9 (0, 0)) * (pts b5 (.cells #[.int .i64 frm] 3 (0, 0)) * (pts b4 (.cells #[v] 53 (0, 0)) * rowL 9 1 strE v out))
def SpM (b1 b5 b4 : Nat) (s : ByteArray) (frm : Nat) (out : List (List UInt8)) : Asr := ex fun v => spW b1 b5 b4 s frm v out
theorem sp_open {w : World} {b1 b5 b4 : Nat} {s : ByteArray} {frm : Nat} {out : List (List UInt8)} {F : Asr} (h : Holds w (SpM b1 b5 b4 s frm out * F)) : ∃ v, Holds w (spW b1 b5 b4 s frm v out * F) := by
  unfold SpM at h
  rw [ex_star] at h
  exact holds_ex.1 h
theorem sp_shut {w : World} {b1 b5 b4 : Nat} {s : ByteArray} {frm : Nat} {v : Value} {out : List (List UInt8)} {F : Asr} (h : Holds w (spW b1 b5 b4 s frm v out * F)) : Holds w (SpM b1 b5 b4 s frm out * F) := by
  unfold SpM
  rw [ex_star]
  exact holds_ex.2 ⟨v, h⟩
structure SpSeen (w : World) (b1 b5 b4 : Nat) (s : ByteArray) (frm : Nat) (v : Value) : Prop where
  l1 : b1 < w.heap.size
  l5 : b5 < w.heap.size
  l4 : b4 < w.heap.size
  c1 : w.cell? ⟨b1, 0, none⟩ = some (.string s)
  c5 : w.cell? ⟨b5, 0, none⟩ = some (.int .i64 frm)
  c4 : w.cell? ⟨b4, 0, none⟩ = some v
  f5 : w.frozen? ⟨b5, 0, none⟩ = false
  f4 : w.frozen? ⟨b4, 0, none⟩ = false
theorem sp_seen {w : World} {b1 b5 b4 : Nat} {s : ByteArray} {frm : Nat} {v : Value} {out : List (List UInt8)} {F : Asr} (h : Holds w (spW b1 b5 b4 s frm v out * F)) : SpSeen w b1 b5 b4 s frm v := by
  unfold spW at h
  have h1 := h.eqv (by ac_rfl : _ = pts b1 (.cells #[.string s] 9 (0, 0)) * (pts b5 (.cells #[.int .i64 frm] 3 (0, 0)) * (pts b4 (.cells #[v] 53 (0, 0)) * (rowL 9 1 strE v out * F))))
  have h5 := h1.eqv (star_left_comm _ _ _)
  have h4 := h1.eqv (by ac_rfl : _ = pts b4 (.cells #[v] 53 (0, 0)) * (pts b1 (.cells #[.string s] 9 (0, 0)) * (pts b5 (.cells #[.int .i64 frm] 3 (0, 0)) * (rowL 9 1 strE v out * F))))
  have c1 := h1.cell 0
  have c5 := h5.cell 0
  have c4 := h4.cell 0
  simp at c1 c5 c4
  exact ⟨h1.lt, h5.lt, h4.lt, c1, c5, c4, h5.frozen 0, h4.frozen 0⟩
set_option maxHeartbeats 4000000 in
theorem end_calls (b1 b5 b4 : Nat) (s : ByteArray) (frm tt : Nat) (out : List (List UInt8)) (F : Asr) (hs : s.size ≤ 1048576) (h1 : frm ≤ tt) (h2 : tt ≤ s.size) (ho : out.length ≤ 1048576) (w : World) (hw : Holds w (SpM b1 b5 b4 s frm out * F)) :
    Calls Tryd.prog 46 #[.int .i64 tt, .pointer (some ⟨b1, 0, none⟩), .pointer (some ⟨b5, 0, none⟩), .pointer (some ⟨b4, 0, none⟩)] w fun e w' => e = .returned (.tuple #[]) ∧ Holds w' (SpM b1 b5 b4 s (tt + 1) (addW out (((bl s).drop frm).take (tt - frm))) * F) ∧ Sm w w' := by
  obtain ⟨v, h0⟩ := sp_open hw
  have cs := sp_seen h0
  have x1 := cs.c1
  have x5 := cs.c5
  have l1 := cs.l1
  have l5 := cs.l5
  have TR := Lib.hid (fun wq => trim_calls (s.extract frm tt) (by rw [ByteArray.size_extract]; omega) wq)
  have H0 := Lib.hid h0
  rw [bl_ext] at TR
  obtain ⟨own, hown⟩ : ∃ q, ((bl s).drop frm).take (tt - frm) = q := ⟨_, rfl⟩
  rw [hown] at TR ⊢
  obtain ⟨O2, hO2⟩ : ∃ q, addW out own = q := ⟨_, rfl⟩
  have HO := Lib.hid hO2
  rw [hO2]
  clear hO2
  have f0 : (0 : Int) ≤ (frm : Int) := by omega
  have f1 : (frm : Int) ≤ (tt : Int) := by omega
  have f2 : (tt : Int) ≤ (s.size : Int) := by omega
  clear hw h0 cs hown
  go_enter Tryd.func46, Tryd.ntmps46
  go_wp2_with fail
  refine (TR.out _).mono ?_
  rintro e w1 ⟨rfl, hb⟩
  have h1' := H0.out.grow hb
  have H1 := Lib.hid h1'
  have S1 : Hid (Sm w w1) := .of_below hb
  have cs := sp_seen h1'
  have x4 := cs.c4
  have l4 := cs.l4
  have x5 := cs.c5
  have f5 := cs.f5
  have f4 := cs.f4
  obtain ⟨t, ht⟩ : ∃ q, trimL own = q := ⟨_, rfl⟩
  have wt : IntKind.i64.wrap ((tt : Int) + 1) = ((tt + 1 : Nat) : Int) := by rw [IntWalk.i64_in _ (by omega)]; omega
  rw [ht]
  clear hb h1' cs TR H0
  by_cases ht0 : t = []
  · have ea : out = O2 := by rw [← HO.out]; unfold addW; rw [if_pos (by rw [ht]; exact ht0)]
    have he : (sb t).toList = [] := by rw [Go.Lib.toList_data, ht0]; rfl
    have he2 : (sb t).toList.isEmpty = true := by rw [he]; rfl
    have HF : Hid (Holds (w1.setCell ⟨b5, 0, none⟩ (.int .i64 ((tt + 1 : Nat) : Int))) (SpM b1 b5 b4 s (tt + 1) O2 * F)) := by
      have h := H1.out
      unfold spW at h
      have h := (h.eqv (by ac_rfl : _ = pts b5 (.cells #[.int .i64 frm] 3 (0, 0)) * (pts b1 (.cells #[.string s] 9 (0, 0)) * (pts b4 (.cells #[v] 53 (0, 0)) * (rowL 9 1 strE v out * F))))).store 0 (.int .i64 ((tt + 1 : Nat) : Int))
      rw [ea] at h
      refine sp_shut (v := v) ?_
      unfold spW
      exact h.eqv (by simp only [List.setIfInBounds_toArray, List.set_cons_zero]; ac_rfl)
    have SF : Hid (Sm w (w1.setCell ⟨b5, 0, none⟩ (.int .i64 ((tt + 1 : Nat) : Int)))) := S1.out.setCell _ _
    clear H1 S1 ht ea ht0 HO
    go_wp2_with fail
    go_end0
    exact ⟨rfl, HF.out, SF.out⟩
  · have ea : out ++ [t] = O2 := by rw [← HO.out]; unfold addW; rw [if_neg (by rw [ht]; exact ht0), ht]
    have he2 : (sb t).toList.isEmpty = false := by
      rw [Go.Lib.toList_data]; show (bl (sb t)).isEmpty = false
      rw [bl_sb]
      cases t with
      | nil => exact absurd rfl ht0
      | cons _ _ => rfl
    have HAP : Hid (Holds (w1.alloc (.cells #[.string (sb t)] 9)) (rowL 9 1 strE v out * (pts b4 (.cells #[v] 53 (0, 0)) * (pts b5 (.cells #[.int .i64 frm] 3 (0, 0)) * (pts b1 (.cells #[.string s] 9 (0, 0)) * F))))) := by
      have h := H1.out
      unfold spW at h
      show Holds _ _
      exact (h.alloc (.cells #[.string (sb t)] 9)).right.eqv (by ac_rfl)
    have N1 : Hid (out.length + 1 ≤ maxLen) := by show _ ≤ _; unfold maxLen; omega
    have N2 : Hid ((out.length + 1) * 16 ≤ 140737488355328) := by show _ ≤ _; omega
    have S2 := Lib.hid (S1.out.alloc (.cells #[.string (sb t)] 9))
    clear H1 S1 ht ht0 HO x1 l1 l5
    go_wp2_with (at_builtin; refine wpList_append_one (enc := strE) rfl _ _ 53 rfl 9 (.string ⟨#[]⟩) 1 16 Tryd.underlying53 infoS rfl t rfl HAP.out ⟨w1.heap.size, 0, none⟩ 1 rfl rfl (cells_new w1 #[.string (sb t)] 9 _ rfl) (by simp [strE, Value.oneCell']) N1.out N2.out ?_)
    intro v' w4 h4 s4
    try rw [ea] at h4
    obtain ⟨ao', cap', ev, -⟩ := rowA_slice h4
    obtain ⟨m', hm'⟩ : ∃ q, O2.length = q := ⟨_, rfl⟩
    try rw [hm'] at ev
    subst ev
    obtain ⟨v', hv'⟩ : ∃ q, Value.slice ao' m' cap' = q := ⟨_, rfl⟩
    have HV' := Lib.hid hv'
    rw [hv'] at h4
    have hb4 := h4.eqv (star_left_comm _ _ _)
    have l4' := hb4.lt
    have c4' := hb4.cell 0
    have f4' := hb4.frozen 0
    have hs4 := hb4.store 0 v'
    have hb5 := hs4.eqv (by ac_rfl : _ = pts b5 (.cells #[.int .i64 frm] 3 (0, 0)) * (pts b4 (.cells ((#[v] : Array Value).setIfInBounds 0 v') 53 (0, 0)) * (rowL 9 1 strE v' O2 * (pts b1 (.cells #[.string s] 9 (0, 0)) * F))))
    have l5' := hb5.lt
    have c5' := hb5.cell 0
    have f5' := hb5.frozen 0
    simp at c4' c5'
    have HF : Hid (Holds ((w4.setCell ⟨b4, 0, none⟩ v').setCell ⟨b5, 0, none⟩ (.int .i64 ((tt + 1 : Nat) : Int))) (SpM b1 b5 b4 s (tt + 1) O2 * F)) := by
      have h := hb5.store 0 (.int .i64 ((tt + 1 : Nat) : Int))
      refine sp_shut (v := v') ?_
      unfold spW
      exact h.eqv (by simp only [List.setIfInBounds_toArray, List.set_cons_zero]; ac_rfl)
    have SF : Hid (Sm w ((w4.setCell ⟨b4, 0, none⟩ v').setCell ⟨b5, 0, none⟩ (.int .i64 ((tt + 1 : Nat) : Int)))) := ((S2.out.trans s4).setCell _ _).setCell _ _
    clear h4 s4 hb4 hs4 hb5 HAP S2 N1 N2 ea hm'
    subst hv'
    clear HV'
    go_wp2_with fail
    go_end0
    exact ⟨rfl, HF.out, SF.out⟩
#print axioms end_calls

structure SpI (s : ByteArray) (i frm : Nat) (S : Sp) : Prop where
  st : ((bl s).take i).foldl spStep ⟨[], false, false, []⟩ = S
  le : frm ≤ i
  f9 : frm ≤ s.size
  own : S.own = ((bl s).take i).drop frm
  e : S.e = false ∨ s.size < i
  o : S.out.length ≤ i
theorem fold_next {s : ByteArray} {i : Nat} {S : Sp} (h : ((bl s).take i).foldl spStep ⟨[], false, false, []⟩ = S) (hi : i < (bl s).length) : ((bl s).take (i + 1)).foldl spStep ⟨[], false, false, []⟩ = spStep S (bl s)[i] := by
  rw [List.take_succ_eq_append_getElem hi, List.foldl_append, h]; rfl
theorem own_next {s : ByteArray} {i frm : Nat} {own : List UInt8} (h : own = ((bl s).take i).drop frm) (hi : i < (bl s).length) (hf : frm ≤ i) : own ++ [(bl s)[i]] = ((bl s).take (i + 1)).drop frm := by
  rw [List.take_succ_eq_append_getElem hi, List.drop_append_of_le_length (by simp; omega), h]
theorem addW_len (out : List (List UInt8)) (own : List UInt8) : (addW out own).length ≤ out.length + 1 := by unfold addW; split <;> simp
theorem u8_eq {c : UInt8} {k : Nat} (h : c.toNat = k) (n : UInt8) : (c = n) ↔ k = n.toNat := by rw [← h]; exact ⟨fun e => by rw [e], fun e => UInt8.toNat_inj.1 e⟩
def SplitC (s : ByteArray) (F : Asr) (w : World) (e : Ending) (w' : World) : Prop := match splitL (bl s) with
  | none => e = .returned (.tuple #[.slice none 0 0, .bool false]) ∧ Holds w' F ∧ Sm w w'
  | some ws => ∃ ao c cap, e = .returned (.tuple #[.slice ao ws.length c, .bool true]) ∧ Holds w' (rowL 9 1 strE (.slice ao ws.length cap) ws * F) ∧ Sm w w'
set_option maxHeartbeats 8000000 in
theorem split_calls (s : ByteArray) (hs : s.size ≤ 1000000) (F : Asr) (w : World) (hw : Holds w F) : Calls Tryd.prog 30 #[.string s] w (SplitC s F w) := by
  have hmf : ∀ (fn : Fn) (first cap : Array Value) (w : World), (Instr.makeFunc fn first cap).run Tryd.prog w = .ok (.func fn first cap) w := fun _ _ _ _ => rfl
  have EC := Lib.hid (fun b1 b5 b4 frm tt out F (h1 : frm ≤ tt) (h2 : tt ≤ s.size) (ho : out.length ≤ 1048576) w h => end_calls b1 b5 b4 s frm tt out F (by omega) h1 h2 ho w h)
  have H0 : Hid (Holds (((w.alloc (.cells #[.string s] 9)).alloc (.cells #[.slice none 0 0] 53)).alloc (.cells #[.int .i64 0] 3)) (SpM w.heap.size (w.heap.size + 1 + 1) (w.heap.size + 1) s 0 [] * F)) := by
    have h := ((hw.alloc (.cells #[.string s] 9)).alloc (.cells #[.slice none 0 0] 53)).alloc (.cells #[.int .i64 0] 3)
    simp only [World.size_alloc] at h
    have h := rowL_nil (T := 9) (sz := 1) (enc := strE) h
    refine sp_shut (v := .slice none 0 0) ?_
    unfold spW
    exact h.eqv (by ac_rfl)
  have S0 : Hid (Sm w (((w.alloc (.cells #[.string s] 9)).alloc (.cells #[.slice none 0 0] 53)).alloc (.cells #[.int .i64 0] 3))) := (((Sm.refl w).alloc _).alloc _).alloc _
  clear hw
  go_enter Tryd.func30, Tryd.ntmps30
  go_wp2_with fail
  obtain ⟨B, hB⟩ : ∃ q, w.heap.size = q := ⟨_, rfl⟩
  obtain ⟨W, hW⟩ : ∃ q, ((w.alloc (.cells #[.string s] 9)).alloc (.cells #[.slice none 0 0] 53)).alloc (.cells #[.int .i64 0] 3) = q := ⟨_, rfl⟩
  rw [hW, hB] at H0
  rw [hW] at S0 ⊢
  rw [hB]
  clear hB hW
  go_loopw [7, 8] (fun y x wl => ∃ (i frm : Nat) (S : Sp), x = .int .i64 i ∧ y = .bool S.q ∧ i ≤ s.size + 1 ∧ Hid (SpI s i frm S) ∧ Hid (Holds wl (SpM B (B + 1 + 1) (B + 1) s frm S.out * F)) ∧ Hid (Sm w wl)) (fun _ x _ => s.size + 1 - (intOf x).toNat)
  case atStart => exact ⟨0, 0, ⟨[], false, false, []⟩, rfl, rfl, by omega, ⟨rfl, by omega, by omega, by simp, .inl rfl, by simp⟩, H0.out, S0.out⟩
  case round =>
    clear H0 S0
    obtain ⟨i, frm, S, rfl, rfl, hi, HI, HH, HS⟩ := hrel
    obtain ⟨v, hv⟩ := sp_open HH.out
    have cs := sp_seen hv
    have l1 := cs.l1
    have c1 := cs.c1
    have l4 := cs.l4
    have c4 := cs.c4
    clear cs
    obtain ⟨own, q, se, out⟩ := S
    by_cases hil : i < s.size
    · have hib : i < (bl s).length := by rw [bl_len]; exact hil
      have IX := idx_s s i hil
      have FN := fold_next HI.out.st hib
      have ON := own_next HI.out.own hib HI.out.le
      have he : se = false := by rcases HI.out.e with h | h; exact h; omega
      subst he
      obtain ⟨b, hb⟩ : ∃ z, (bl s)[i] = z := ⟨_, rfl⟩
      obtain ⟨k, hk⟩ : ∃ z, b.toNat = z := ⟨_, rfl⟩
      rw [hb] at FN ON IX
      rw [hk] at IX
      have h34 := u8_eq hk 34
      have h92 := u8_eq hk 92
      have h44 := u8_eq hk 44
      simp only [UInt8.reduceToNat] at h34 h92 h44
      have fl := HI.out.le
      have f9 := HI.out.f9
      have ol := HI.out.o
      simp only at ol
      have hk9 : k < 256 := by rw [← hk]; exact UInt8.toNat_lt _
      have i0 : (0 : Int) ≤ (i : Int) := by omega
      have i1 : (i : Int) < (s.size : Int) := by omega
      cases q with
      | true =>
        by_cases c34 : k = 34
        · have e34 : ((k : Int) == 34) = true := by simp; omega
          have e34n : (k == 34) = true := by simpa using c34
          have ES : spStep ⟨own, true, false, out⟩ b = ⟨own ++ [b], false, false, out⟩ := by unfold spStep; simp [h34.2 c34]
          rw [ES] at FN
          have HN : Hid (SpI s (i + 1) frm ⟨own ++ [b], false, false, out⟩) := ⟨FN, by omega, f9, ON, .inl rfl, by simp only; omega⟩
          clear FN ON ES h34 h92 h44 HI hv hb hk
          go_wp2_with fail
          go_roundw
          case rel => exact ⟨i + 1, frm, ⟨own ++ [b], false, false, out⟩, by go_num, by first | rfl | simp, by omega, HN.out, HH.out, HS.out⟩
          case measure => simp [intOf]; omega
        · by_cases c92 : k = 92
          · have e34 : ((k : Int) == 34) = false := beq_eq_false_iff_ne.2 (by omega)
            have e34n : (k == 34) = false := by simpa using c34
            have e92 : ((k : Int) == 92) = true := by simp; omega
            have e92n : (k == 92) = true := by simpa using c92
            have ES : spStep ⟨own, true, false, out⟩ b = ⟨own ++ [b], true, true, out⟩ := by unfold spStep; simp [show ¬ b = 34 from fun h => c34 (h34.1 h), h92.2 c92]
            rw [ES] at FN
            have HN : ∃ S2 : Sp, S2.q = true ∧ S2.out = out ∧ SpI s (i + 2) frm S2 := by
              by_cases hl : i + 1 < s.size
              · have hlb : i + 1 < (bl s).length := by rw [bl_len]; exact hl
                have FN2 := fold_next FN hlb
                have ON2 := own_next ON hlb (by omega)
                refine ⟨_, ?_, ?_, ⟨FN2, by omega, f9, ?_, ?_, ?_⟩⟩
                · rfl
                · rfl
                · exact ON2
                · exact .inl rfl
                · show out.length ≤ _; omega
              · have et : (bl s).take (i + 2) = (bl s).take (i + 1) := by rw [List.take_of_length_le (by rw [bl_len]; omega), List.take_of_length_le (by rw [bl_len]; omega)]
                exact ⟨⟨own ++ [b], true, true, out⟩, rfl, rfl, ⟨by rw [et]; exact FN, by omega, f9, by rw [et]; exact ON, .inr (by omega), by show out.length ≤ _; omega⟩⟩
            obtain ⟨S2, hq2, ho2, HN0⟩ := HN
            have HN := Lib.hid HN0
            have HQ := Lib.hid hq2
            have HH2 : Hid (Holds wr (SpM B (B + 1 + 1) (B + 1) s frm S2.out * F)) := by show Holds _ _; rw [ho2]; exact HH.out
            have w1 : IntKind.i64.wrap ((i : Int) + 1) = (i : Int) + 1 := IntWalk.i64_in _ (by omega)
            have w2 : IntKind.i64.wrap ((i : Int) + 1 + 1) = (i : Int) + 1 + 1 := IntWalk.i64_in _ (by omega)
            clear FN ON ES h34 h92 h44 HI hv hb hk hq2 ho2 HN0
            go_wp2_with fail
            go_roundw
            case rel => exact ⟨i + 2, frm, S2, by go_num, by rw [HQ.out], by omega, HN.out, HH2.out, HS.out⟩
            case measure => simp [intOf]; omega
          · have e34 : ((k : Int) == 34) = false := beq_eq_false_iff_ne.2 (by omega)
            have e34n : (k == 34) = false := by simpa using c34
            have e92 : ((k : Int) == 92) = false := beq_eq_false_iff_ne.2 (by omega)
            have e92n : (k == 92) = false := by simpa using c92
            have ES : spStep ⟨own, true, false, out⟩ b = ⟨own ++ [b], true, false, out⟩ := by unfold spStep; simp [show ¬ b = 34 from fun h => c34 (h34.1 h), show ¬ b = 92 from fun h => c92 (h92.1 h)]
            rw [ES] at FN
            have HN : Hid (SpI s (i + 1) frm ⟨own ++ [b], true, false, out⟩) := ⟨FN, by omega, f9, ON, .inl rfl, by simp only; omega⟩
            clear FN ON ES h34 h92 h44 HI hv hb hk
            go_wp2_with fail
            go_roundw
            case rel => exact ⟨i + 1, frm, ⟨own ++ [b], true, false, out⟩, by go_num, by first | rfl | simp, by omega, HN.out, HH.out, HS.out⟩
            case measure => simp [intOf]; omega
      | false =>
        by_cases c34 : k = 34
        · have e34 : ((k : Int) == 34) = true := by simp; omega
          have e34n : (k == 34) = true := by simpa using c34
          have ES : spStep ⟨own, false, false, out⟩ b = ⟨own ++ [b], true, false, out⟩ := by unfold spStep; simp [h34.2 c34]
          rw [ES] at FN
          have HN : Hid (SpI s (i + 1) frm ⟨own ++ [b], true, false, out⟩) := ⟨FN, by omega, f9, ON, .inl rfl, by simp only; omega⟩
          clear FN ON ES h34 h92 h44 HI hv hb hk
          go_wp2_with fail
          go_roundw
          case rel => exact ⟨i + 1, frm, ⟨own ++ [b], true, false, out⟩, by go_num, by first | rfl | simp, by omega, HN.out, HH.out, HS.out⟩
          case measure => simp [intOf]; omega
        · by_cases c44 : k = 44
          · have e34 : ((k : Int) == 34) = false := beq_eq_false_iff_ne.2 (by omega)
            have e34n : (k == 34) = false := by simpa using c34
            have e44 : ((k : Int) == 44) = true := by simp; omega
            have e44n : (k == 44) = true := by simpa using c44
            have ES : spStep ⟨own, false, false, out⟩ b = ⟨[], false, false, addW out own⟩ := by unfold spStep; simp [show ¬ b = 34 from fun h => c34 (h34.1 h), h44.2 c44]
            rw [ES] at FN
            have hal := addW_len out own
            have HN : Hid (SpI s (i + 1) (i + 1) ⟨[], false, false, addW out own⟩) := ⟨FN, Nat.le_refl _, by omega, by simp, .inl rfl, by simp only; omega⟩
            have EE := Lib.hid (EC.out B (B + 1 + 1) (B + 1) frm i out F fl (by omega) (by omega) wr HH.out)
            have eo : ((bl s).drop frm).take (i - frm) = own := by have h := HI.out.own; simp only at h; rw [h, List.drop_take]
            rw [eo] at EE
            clear FN ON ES h34 h92 h44 HI hv hb hk eo hal
            go_wp2_with fail
            refine (EE.out).mono ?_
            rintro e w2 ⟨rfl, h2, s2⟩
            have H2 := Lib.hid h2
            have S2 := Lib.hid (HS.out.trans s2)
            clear h2 s2 EE HH HS
            go_wp2_with fail
            go_roundw
            case rel => exact ⟨i + 1, i + 1, ⟨[], false, false, addW out own⟩, by go_num, rfl, by omega, HN.out, H2.out, S2.out⟩
            case measure => simp [intOf]; omega
          · have e34 : ((k : Int) == 34) = false := beq_eq_false_iff_ne.2 (by omega)
            have e34n : (k == 34) = false := by simpa using c34
            have e44 : ((k : Int) == 44) = false := beq_eq_false_iff_ne.2 (by omega)
            have e44n : (k == 44) = false := by simpa using c44
            have ES : spStep ⟨own, false, false, out⟩ b = ⟨own ++ [b], false, false, out⟩ := by unfold spStep; simp [show ¬ b = 34 from fun h => c34 (h34.1 h), show ¬ b = 44 from fun h => c44 (h44.1 h)]
            rw [ES] at FN
            have HN : Hid (SpI s (i + 1) frm ⟨own ++ [b], false, false, out⟩) := ⟨FN, by omega, f9, ON, .inl rfl, by simp only; omega⟩
            clear FN ON ES h34 h92 h44 HI hv hb hk
            go_wp2_with fail
            go_roundw
            case rel => exact ⟨i + 1, frm, ⟨own ++ [b], false, false, out⟩, by go_num, by first | rfl | simp, by omega, HN.out, HH.out, HS.out⟩
            case measure => simp [intOf]; omega
    · have e0 : decide ((i : Int) < (s.size : Int)) = false := by simp; omega
      have e0n : decide (i < s.size) = false := by simpa using hil
      have et : (bl s).take i = bl s := List.take_of_length_le (by rw [bl_len]; omega)
      have st := HI.out.st
      have ow := HI.out.own
      have f9 := HI.out.f9
      have ol := HI.out.o
      rw [et] at st ow
      simp only at ow ol
      have eS : spL (bl s) = ⟨own, q, se, out⟩ := st
      cases q with
      | true =>
        have eR : splitL (bl s) = none := by unfold splitL; rw [eS]; rfl
        have HF : Hid (Holds wr F) := HH.out.right
        have HR := Lib.hid eR
        clear HI st ow eS eR hv et
        go_wp2_with fail
        go_ret2
        unfold SplitC
        rw [HR.out]
        exact ⟨rfl, HF.out, HS.out⟩
      | false =>
        have eR : splitL (bl s) = some (addW out own) := by unfold splitL; rw [eS]; rfl
        have HR := Lib.hid eR
        have EE := Lib.hid (EC.out B (B + 1 + 1) (B + 1) frm s.size out F f9 (Nat.le_refl _) (by omega) wr HH.out)
        have eo : ((bl s).drop frm).take (s.size - frm) = own := by rw [ow, List.take_of_length_le (by rw [List.length_drop, bl_len]; exact Nat.le_refl _)]
        rw [eo] at EE
        have hal := addW_len out own
        obtain ⟨ws, hws⟩ : ∃ z, addW out own = z := ⟨_, rfl⟩
        rw [hws] at EE HR hal
        clear HI st ow eS eR hv eo et hws
        go_wp2_with fail
        refine (EE.out).mono ?_
        rintro e w2 ⟨rfl, h2, s2⟩
        obtain ⟨v2, hv2⟩ := sp_open h2
        have cs := sp_seen hv2
        have l4' := cs.l4
        have c4' := cs.c4
        obtain ⟨ao, cap, ev, hcap⟩ := rowA_slice (hv2.eqv (by unfold spW; ac_rfl : _ = rowL 9 1 strE v2 ws * (pts B (.cells #[.string s] 9 (0, 0)) * (pts (B + 1 + 1) (.cells #[.int .i64 ((s.size + 1 : Nat) : Int)] 3 (0, 0)) * (pts (B + 1) (.cells #[v2] 53 (0, 0)) * F)))))
        have HF : Hid (Holds w2 (rowL 9 1 strE (.slice ao ws.length cap) ws * F)) := by
          have h := hv2.eqv (by unfold spW; ac_rfl : _ = (pts B (.cells #[.string s] 9 (0, 0)) * (pts (B + 1 + 1) (.cells #[.int .i64 ((s.size + 1 : Nat) : Int)] 3 (0, 0)) * pts (B + 1) (.cells #[v2] 53 (0, 0)))) * (rowL 9 1 strE v2 ws * F))
          rw [ev] at h
          exact h.right
        have S2 := Lib.hid (HS.out.trans s2)
        obtain ⟨n, hn⟩ : ∃ z, ws.length = z := ⟨_, rfl⟩
        rw [hn] at ev hcap HF
        have HNN := Lib.hid hn
        subst ev
        clear h2 s2 hv2 cs EE HH HS hn
        go_wp2_with fail
        go_ret2
        unfold SplitC
        rw [HR.out]
        exact ⟨ao, n, cap, by rw [HNN.out]; rfl, by rw [HNN.out]; exact HF.out, S2.out⟩
#print axioms split_calls
end Go.Proofs.YtefcinifaaablaaDoor.Tok
