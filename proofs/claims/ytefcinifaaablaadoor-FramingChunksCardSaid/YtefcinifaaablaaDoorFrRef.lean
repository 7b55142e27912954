/-
  FramingChunks: the document's chunk; the last chunk.
-/
import Derived.Test.YtefcinifaaablaaDoorFrChunk
import Derived.Test.YtefcinifaaablaaDoorZRow
import Derived.Lib.SlBytesConst
namespace Go.Proofs.YtefcinifaaablaaDoor.Fr
open Go.RowKit Go.Sep
open Go.Lib (strCells strCells_length)
set_option maxRecDepth 100000
set_option linter.unusedVariables false
set_option linter.unusedSimpArgs false

def RowCZ (L : List Int) (F : Asr) (w : World) (e : Ending) (w' : World) : Prop := ∃ v, e = .returned v ∧ Holds w' (rowZ 5 v L.length (u8s L) * F) ∧ Sm w w'
def dgB (d : Nat) : UInt8 := if d < 10 then (48 + d).toUInt8 else (87 + d).toUInt8
def digS : ByteArray := ⟨#[48, 49, 50, 51, 52, 53, 54, 55, 56, 57, 97, 98, 99, 100, 101, 102]⟩
theorem dgB_dg (d : Nat) (h : d < 16) : ((dgB d).toNat : Int) = dg d := by
  have : d = 0 ∨ d = 1 ∨ d = 2 ∨ d = 3 ∨ d = 4 ∨ d = 5 ∨ d = 6 ∨ d = 7 ∨ d = 8 ∨ d = 9 ∨ d = 10 ∨ d = 11 ∨ d = 12 ∨ d = 13 ∨ d = 14 ∨ d = 15 := by omega
  rcases this with rfl | rfl | rfl | rfl | rfl | rfl | rfl | rfl | rfl | rfl | rfl | rfl | rfl | rfl | rfl | rfl <;> rfl
theorem dig_ext (d : Nat) (h : d < 16) : digS.extract d (d + 1) = ⟨#[dgB d]⟩ := by
  have : d = 0 ∨ d = 1 ∨ d = 2 ∨ d = 3 ∨ d = 4 ∨ d = 5 ∨ d = 6 ∨ d = 7 ∨ d = 8 ∨ d = 9 ∨ d = 10 ∨ d = 11 ∨ d = 12 ∨ d = 13 ∨ d = 14 ∨ d = 15 := by omega
  rcases this with rfl | rfl | rfl | rfl | rfl | rfl | rfl | rfl | rfl | rfl | rfl | rfl | rfl | rfl | rfl | rfl <;> rfl
theorem hexL_zero (f : Nat) : hexL f 0 = [] := by cases f <;> simp [hexL]
theorem ints_cons (b : UInt8) (D : ByteArray) : ints (⟨#[b]⟩ ++ D) = (b.toNat : Int) :: ints D := by simp [ints, ByteArray.data_append]
theorem ints_snoc (D E : ByteArray) : ints (D ++ E) = ints D ++ ints E := by simp [ints, ByteArray.data_append]
set_option maxHeartbeats 4000000 in
theorem rchunk_calls (ad : Addr) (n c : Nat) (bs : List Int) (hn : bs.length = n) (n0 : 0 < n) (n9 : n ≤ 5000) (F : Asr) (w : World)
    (hS : ∀ (wq : World) (G : Asr), Holds wq (G * F) → ∀ i v, (u8s bs)[i]? = some v → wq.cell? (ad.add i) = some v) (hw : Holds w F) :
    Calls Tryd.prog 7 #[.slice (some ad) n c] w (RowCZ (hexL 4 n ++ [13, 10] ++ bs ++ [13, 10]) F w) := by
  have HW := Lib.hid hw
  have HS := Lib.hid hS
  have HN := Lib.hid hn
  have ONE : Hid (∀ v ∈ u8s bs, v.oneCell' = true) := by intro v hv; obtain ⟨x, -, rfl⟩ := List.mem_map.1 hv; rfl
  have LEN : Hid ((u8s bs).length = n) := by show _ = _; rw [← hn]; simp [u8s]
  have m63 : Hid (5020 ≤ maxLen) := by show _ ≤ _; unfold maxLen; omega
  have nz : ((n : Int) == 0) = false := by simp; omega
  have nz2 : (n == 0) = false := by simp; omega
  clear hw hS hn
  go_enter Tryd.func7, Tryd.ntmps7
  go_wp2_with fail
  go_loopw [3, 4] (fun x y wl => ∃ (m f : Nat) (D : ByteArray), x = .string D ∧ y = .int .i64 m ∧ m ≤ 5000 ∧ Hid (m < 16 ^ f ∧ f ≤ 4) ∧ Hid (hexL 4 n = hexL f m ++ ints D) ∧ wl = w) (fun _ y _ => (intOf y).toNat)
  case atStart => exact ⟨n, 4, _, rfl, rfl, n9, ⟨by omega, by omega⟩, by simp [Hid, ints], rfl⟩
  case round =>
    obtain ⟨m, f, D, rfl, rfl, m9, NF, HX, rfl⟩ := hrel
    by_cases hm : 0 < m
    · have e0 : decide ((0 : Int) < (m : Int)) = true := by simp; omega
      have e1 : decide (0 < m) = true := by simpa using hm
      obtain ⟨d, hd⟩ : ∃ q, m % 16 = q := ⟨_, rfl⟩
      have hd16 : d < 16 := by omega
      have ht : Int.tmod (m : Int) 16 = (d : Int) := by rw [Int.tmod_eq_emod_of_nonneg (by omega)]; omega
      have ht2 : (m : Int) % 16 = (d : Int) := by omega
      have hq : Int.tdiv (m : Int) 16 = ((m / 16 : Nat) : Int) := by rw [Int.tdiv_eq_ediv_of_nonneg (by omega)]; omega
      have d0 : (0 : Int) ≤ (d : Int) := by omega
      have d1 : (d : Int) < 16 := by omega
      have HD := Lib.hid hd
      have DE : (ByteArray.mk #[48, 49, 50, 51, 52, 53, 54, 55, 56, 57, 97, 98, 99, 100, 101, 102]).extract d (d + 1) = ByteArray.mk #[dgB d] := dig_ext d hd16
      have hDs : D.size ≤ 4 := by
        have h1 := congrArg List.length HX.out
        have h2 := hexL_len 4 n
        rw [List.length_append, ints_len] at h1
        omega
      have hDi : (1 : Int) + (D.size : Int) ≤ 9223372036854775807 := by omega
      have hDn : 1 + D.size ≤ 9223372036854775807 := by omega
      obtain ⟨E, hE⟩ : ∃ q, ByteArray.mk #[dgB d] = q := ⟨_, rfl⟩
      have hEs : E.size = 1 := by rw [← hE]; rfl
      have HE : Hid (∀ D, ints (E ++ D) = dg d :: ints D) := by intro D; rw [← hE, ints_cons, dgB_dg d hd16]
      rw [hE] at DE
      clear hE
      have NX : Hid (hexL 4 n = hexL (f - 1) (m / 16) ++ ints (E ++ D)) := by
        have f1 : 1 ≤ f := by
          have := NF.out.1
          rcases Nat.eq_zero_or_pos f with h | h
          · subst h; simp at this; omega
          · exact h
        show _ = _
        rw [HX.out, show f = (f - 1) + 1 by omega, hexL_more hm, HD.out, HE.out, List.append_assoc]
        rfl
      have NR : Hid (m / 16 < 16 ^ (f - 1) ∧ f - 1 ≤ 4) := by
        obtain ⟨f1, f2⟩ := NF.out
        have : f = 0 ∨ f = 1 ∨ f = 2 ∨ f = 3 ∨ f = 4 := by omega
        rcases this with rfl | rfl | rfl | rfl | rfl <;> simp only [Hid] <;> omega
      clear HX NF HE
      clear hd
      go_wp2_with fail
      go_roundw
      case rel => exact ⟨m / 16, f - 1, _, rfl, by go_num, by omega, NR.out, NX.out, by first | rfl | trivial⟩
      case measure => simp [intOf]; omega
    · obtain rfl : m = 0 := by omega
      have HD2 : Hid (hexL 4 n = ints D) := by show _ = _; rw [HX.out, hexL_zero]; rfl
      have hDs : D.size ≤ 4 := by
        have h1 := congrArg List.length HD2.out
        have h2 := hexL_len 4 n
        rw [ints_len] at h1
        omega
      have hDi : (D.size : Int) + 2 ≤ 9223372036854775807 := by omega
      have hDn : D.size + 2 ≤ 9223372036854775807 := by omega
      obtain ⟨E, hE⟩ : ∃ q, D ++ ByteArray.mk #[13, 10] = q := ⟨_, rfl⟩
      have hEs : E.size = D.size + 2 := by rw [← hE]; simp; rfl
      have HEI : Hid (ints E = ints D ++ [13, 10]) := by show _ = _; rw [← hE, ints_snoc]; rfl
      obtain ⟨v1, w1, hc, h1, s1⟩ := conv_row (P := Tryd.prog) (src := 9) (dst := 22) (e := 5) E Tryd.underlying9 Tryd.underlying22 Tryd.underlying5 (by omega) HW.out
      have H1 : Hid (Holds w1 (rowZ 5 v1 E.size (u8s (ints D ++ [13, 10])) * F)) := by
        show Holds _ _
        rw [strCells_u8s, HEI.out] at h1
        exact h1
      have HES := Lib.hid hEs
      have S1 := Lib.hid s1
      clear h1 s1 HX NF hm hEs
      go_wp2_with (at_builtin; refine wpList_append_sepZ rfl _ _ 22 rfl 5 (.int .u8 0) 1 Tryd.underlying22 infoU8 rfl rfl H1.out ad n c (u8s bs) rfl LEN.out (HS.out _ _ H1.out) ONE.out (by have := m63.out; have := HES.out; omega) (by have := HES.out; omega) ?_)
      intro v2 w2 h2 s2
      have H2 : Hid (Holds (w2.alloc (.cells #[.int .u8 13, .int .u8 10] 5)) (rowZ 5 v2 (E.size + n) (u8s (ints D ++ [13, 10] ++ bs)) * (pts w2.heap.size (.cells #[.int .u8 13, .int .u8 10] 5 (0, 0)) * F))) := by
        show Holds _ _
        rw [← u8s_append] at h2
        exact (h2.alloc (.cells #[.int .u8 13, .int .u8 10] 5)).eqv (star_left_comm _ _ _)
      have S2 : Hid (Sm wr (w2.alloc (.cells #[.int .u8 13, .int .u8 10] 5))) := (S1.out.trans s2).alloc _
      clear h2 s2 H1 S1 hc
      go_wp2_with (at_builtin; refine wpList_append_sepZ rfl _ _ 22 rfl 5 (.int .u8 0) 1 Tryd.underlying22 infoU8 rfl rfl H2.out ⟨w2.heap.size, 0, none⟩ 2 2 [.int .u8 13, .int .u8 10] rfl rfl (cells_new w2 #[.int .u8 13, .int .u8 10] 5 _ rfl) (by simp [Value.oneCell']) (by have := m63.out; have := HES.out; omega) (by have := HES.out; omega) ?_)
      intro v3 w3 h3 s3
      have H3 : Hid (Holds w3 (rowZ 5 v3 (hexL 4 n ++ [13, 10] ++ bs ++ [13, 10]).length (u8s (hexL 4 n ++ [13, 10] ++ bs ++ [13, 10])) * F)) := by
        show Holds _ _
        have e9 : (ints D ++ [13, 10] ++ bs ++ [13, 10]).length = E.size + n + 2 := by rw [HES.out]; simp [HN.out, ints_len]; omega
        rw [HD2.out, e9]
        have e8 : u8s (ints D ++ [13, 10] ++ bs ++ [13, 10]) = u8s (ints D ++ [13, 10] ++ bs) ++ [Value.int .u8 13, Value.int .u8 10] := by rw [u8s_append]; rfl
        rw [e8]
        have e7 : ints D ++ 13 :: 10 :: bs = ints D ++ [13, 10] ++ bs := by simp
        rw [e7] at h3
        exact (h3.eqv (by ac_rfl : _ = pts w2.heap.size (.cells #[.int .u8 13, .int .u8 10] 5 (0, 0)) * (rowZ 5 v3 (E.size + n + 2) (u8s (ints D ++ [13, 10] ++ bs) ++ [Value.int .u8 13, Value.int .u8 10]) * F))).right
      have S3 := Lib.hid (S2.out.trans s3)
      clear h3 s3 H2 S2
      go_wp2_with fail
      go_ret
      exact ⟨_, rfl, H3.out, S3.out⟩
#print axioms rchunk_calls
theorem last_calls (F : Asr) (w : World) (hw : Holds w F) : Calls Tryd.prog 8 #[] w fun e w' => ∃ g, e = .returned (.slice (some ⟨g, 0, none⟩) 5 5) ∧ Holds w' (pts g (.cells (u8s [48, 13, 10, 13, 10]).toArray 5 (5, 6)) * F) ∧ Sm w w' := by
  have H : Hid (Holds (w.alloc (.cells #[.int .u8 48, .int .u8 13, .int .u8 10, .int .u8 13, .int .u8 10] 5 (5, 6))) (pts w.heap.size (.cells (u8s [48, 13, 10, 13, 10]).toArray 5 (5, 6)) * F)) := hw.alloc _
  have S : Hid (Sm w (w.alloc (.cells #[.int .u8 48, .int .u8 13, .int .u8 10, .int .u8 13, .int .u8 10] 5 (5, 6)))) := (Sm.refl w).alloc _
  have CS := Go.Lib.run_convert_bytes_const (P := Tryd.prog) w 22 5 #[.int .u8 48, .int .u8 13, .int .u8 10, .int .u8 13, .int .u8 10] 5 5 Tryd.underlying22 Tryd.underlying5
  simp only [List.size_toArray, List.length_cons, List.length_nil, Nat.zero_add, Nat.reduceAdd] at CS
  clear hw
  go_enter Tryd.func8, Tryd.ntmps8
  go_wp2_with fail
  go_ret
  exact ⟨_, rfl, H.out, S.out⟩
#print axioms last_calls
end Go.Proofs.YtefcinifaaablaaDoor.Fr
