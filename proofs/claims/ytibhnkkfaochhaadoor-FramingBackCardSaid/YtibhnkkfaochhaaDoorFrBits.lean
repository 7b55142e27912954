/-
  FramingChunks: internal/strconv.formatBits at base 16, for 0 < u < 65536.
-/
import Derived.Test.YtibhnkkfaochhaaDoorRows
import Derived.Test.YtibhnkkfaochhaaDoorStrRow
import Derived.Deep.QuietTactic
import Derived.BigQuiet
import Derived.LoopTactic
import Derived.OwnWalk
import Derived.Outline
import Derived.Laws.Bits64b
import Derived.Deep.RegionHeld3
namespace Go.Proofs.YtibhnkkfaochhaaDoor.Fr
open Go.RowKit Go.Sep
set_option maxRecDepth 100000
set_option linter.unusedVariables false
set_option linter.unusedSimpArgs false

def u8s (l : List Int) : List Value := l.map (Value.int .u8)
def dg (d : Nat) : Int := if d < 10 then 48 + d else 87 + d
def hexL : Nat → Nat → List Int
  | 0, _ => []
  | f + 1, n => if n = 0 then [] else hexL f (n / 16) ++ [dg (n % 16)]
theorem tz_16 (w : World) (hT : w.cell? ⟨5, 15, none⟩ = some (.int .u8 4)) : Calls Tryd.prog 59 #[.int .u64 16] w fun e w' => e = .returned (.int .i64 4) ∧ w' = w := by
  have T64 : Hid (Calls Tryd.prog 81 #[.int .u64 16] w fun e w' => e = .returned (.int .i64 4) ∧ w' = w) := by
    show Calls _ _ _ _ _
    have key : IntKind.u64.wrap (bits BinOp.and IntKind.u64 16 (IntKind.u64.wrap (-16)) * 285870213051353865) / 288230376151711744 = 15 := by decide +kernel
    go_enter Tryd.func81, Tryd.ntmps81
    go_wp2_with (simp only [key])
    go_ret
    exact ⟨rfl, rfl⟩
  go_enter Tryd.func59, Tryd.ntmps59
  go_wp2_with fail
  refine (T64.out).mono ?_
  rintro e w' ⟨rfl, rfl⟩
  go_wp2_with fail
  go_ret
  exact ⟨rfl, rfl⟩
theorem pow2_16 (w : World) : Calls Tryd.prog 58 #[.int .i64 16] w fun e w' => e = .returned (.bool true) ∧ w' = w := by
  go_enter Tryd.func58, Tryd.ntmps58
  go_wp2_with fail
  go_ret
  exact ⟨rfl, rfl⟩

theorem drop_set_at {l : List Int} {p : Nat} (h : p < l.length) (x : Int) : (l.set p x).drop p = x :: l.drop (p + 1) := by
  rw [List.drop_eq_getElem_cons (by simpa using h), List.getElem_set_self, List.drop_set, if_pos (by omega)]
theorem hexL_small {f n : Nat} (h0 : 0 < n) (h : n < 16) : hexL (f + 1) n = [dg n] := by
  unfold hexL
  rw [if_neg (by omega), show n / 16 = 0 by omega, show n % 16 = n by omega]
  cases f <;> simp [hexL]
theorem hexL_more {f n : Nat} (h : 0 < n) : hexL (f + 1) n = hexL f (n / 16) ++ [dg (n % 16)] := by
  show (if n = 0 then [] else _) = _
  rw [if_neg (by omega)]
theorem dg_byte (d : Nat) (h : d < 16) : 0 ≤ dg d ∧ dg d < 256 := by unfold dg; split <;> omega
theorem hexL_byte : ∀ (f n : Nat), ∀ x ∈ hexL f n, 0 ≤ x ∧ x < 256
  | 0, n, x, h => by simp [hexL] at h
  | f + 1, n, x, h => by
    unfold hexL at h
    split at h
    · simp at h
    · rcases List.mem_append.1 h with h | h
      · exact hexL_byte f _ x h
      · rw [List.mem_singleton.1 h]; exact dg_byte _ (Nat.mod_lt _ (by omega))
theorem hexL_len : ∀ (f n : Nat), (hexL f n).length ≤ f
  | 0, n => by simp [hexL]
  | f + 1, n => by
    unfold hexL
    split
    · simp
    · have := hexL_len f (n / 16)
      simp; omega
theorem index_dig (n : Nat) (hn : n < 16) (w : World) : (Instr.index 9 (.string ⟨#[48, 49, 50, 51, 52, 53, 54, 55, 56, 57, 97, 98, 99, 100, 101, 102, 103, 104, 105, 106, 107, 108, 109, 110, 111, 112, 113, 114, 115, 116, 117, 118, 119, 120, 121, 122]⟩) (.int .u64 n)).run Tryd.prog w = .ok (.int .u8 (dg n)) w := by
  have : n = 0 ∨ n = 1 ∨ n = 2 ∨ n = 3 ∨ n = 4 ∨ n = 5 ∨ n = 6 ∨ n = 7 ∨ n = 8 ∨ n = 9 ∨ n = 10 ∨ n = 11 ∨ n = 12 ∨ n = 13 ∨ n = 14 ∨ n = 15 := by omega
  rcases this with rfl | rfl | rfl | rfl | rfl | rfl | rfl | rfl | rfl | rfl | rfl | rfl | rfl | rfl | rfl | rfl <;> simp [Instr.index, run_underlying Tryd.underlying9, asIntOf, dg] <;> rfl
theorem slice_arr (B p : Nat) (hp : p < 65) (w : World) : (Instr.sliceAt 91 (.pointer (some ⟨B, 0, none⟩)) (some (.int .i64 (p : Int))) none none).run Tryd.prog w = .ok (.slice (some ⟨B, p, none⟩) (65 - p) (65 - p)) w := by
  have hE : Tryd.prog.elem 91 = 5 := by kernel_rfl
  have hA : Tryd.prog.arrayLen 91 = 65 := by kernel_rfl
  rw [run_sliceAt_array_l w _ _ (by rw [hA, hE]; exact Tryd.underlying91) .i64 p (by omega) (by rw [hA]; omega), hE, hA]
  have hs := Tryd.sizeOf5
  have : ¬ 65 = p := by omega
  simp [hs, slicedAt, this, Addr.add_lit]
theorem infoU8 : (Tryd.prog.info? 5).map (fun i => (i.zero, i.size, i.bytes)) = some (some (.int .u8 0), 1, 1) := by kernel_rfl
set_option maxHeartbeats 4000000 in
theorem fbits (u : Nat) (h0 : 0 < u) (h9 : u < 65536) (F : Asr) (w : World) (hT : w.cell? ⟨5, 15, none⟩ = some (.int .u8 4)) (hw : Holds w F) :
    Calls Tryd.prog 44 #[.slice none 0 0, .int .u64 u, .int .i64 16, .bool false, .bool true] w fun e w' => ∃ v, e = .returned (.tuple #[v, .string ⟨#[]⟩]) ∧ Holds w' (rowA 5 1 v (hexL 4 u).length (u8s (hexL 4 u)) * F) ∧ Sm w w' := by
  have HW := Lib.hid hw
  have P2 := Lib.hid (fun w => pow2_16 w)
  have TZ := Lib.hid (fun w h => tz_16 w h)
  clear hw
  go_enter Tryd.func44, Tryd.ntmps44
  go_wp2_with fail
  refine (P2.out _).mono ?_
  rintro e w' ⟨rfl, rfl⟩
  have hT2 : (w.alloc (.cells Tryd.zeroCells91 91)).cell? ⟨5, 15, none⟩ = some (.int .u8 4) := (World.cell?_alloc_some w _ _ (by rw [hT]; rfl)).trans hT
  have TT := TZ.out _ hT2
  have H0 : Hid (Holds (w.alloc (.cells Tryd.zeroCells91 91)) (pts w.heap.size (.cells (u8s (List.replicate 65 0)).toArray 91 (0, 0)) * F)) := by
    have hz : Tryd.zeroCells91 = (u8s (List.replicate 65 0)).toArray := by kernel_rfl
    show Holds _ _
    rw [← hz]
    exact HW.out.alloc _
  have S0 : Hid (Sm w (w.alloc (.cells Tryd.zeroCells91 91))) := (Sm.refl w).alloc _
  clear hT hT2 TZ P2
  go_wp2_with fail
  refine TT.mono ?_
  rintro e w' ⟨rfl, rfl⟩
  clear TT
  go_wp2_with fail
  obtain ⟨B, hB⟩ : ∃ q, w.heap.size = q := ⟨_, rfl⟩
  obtain ⟨W, hW⟩ : ∃ q, w.alloc (.cells Tryd.zeroCells91 91) = q := ⟨_, rfl⟩
  rw [hW, hB] at H0
  rw [hW] at S0 ⊢
  rw [hB]
  clear hB hW HW
  go_loopw [1, 13] (fun x y wl => ∃ (n f i : Nat) (bs : List Int), x = .int .u64 n ∧ y = .int .i64 i ∧ 0 < n ∧ n < 65536 ∧ Hid (1 ≤ f ∧ n < 16 ^ f ∧ i = 61 + f ∧ f ≤ 4) ∧ Hid (bs.length = 65) ∧ Hid (hexL 4 u = hexL f n ++ bs.drop i) ∧ Hid (Holds wl (pts B (.cells (u8s bs).toArray 91 (0, 0)) * F)) ∧ Hid (Sm w wl)) (fun x _ _ => (intOf x).toNat)
  case atStart => exact ⟨u, 4, 65, _, rfl, rfl, h0, h9, ⟨by omega, by omega, rfl, by omega⟩, by simp [Hid], by simp [Hid], H0.out, S0.out⟩
  case round =>
    clear H0 S0
    obtain ⟨n, f, i, bs, rfl, rfl, n0, n9, NF, HL, HX, HH, HS⟩ := hrel
    have hl := HH.out.lt
    by_cases hn : 16 ≤ n
    · have e0 : decide ((16 : Int) ≤ (n : Int)) = true := by simp; omega
      have e1 : decide (16 ≤ n) = true := by simpa using hn
      obtain ⟨d, hd⟩ : ∃ q, n % 16 = q := ⟨_, rfl⟩
      have hd16 : d < 16 := by omega
      have ha : bits .and .u64 (n : Int) 15 = (d : Int) := by
        have t := bits_and_u64_nat n 15 (by omega) (by omega)
        rw [show (n &&& 15) = n % 16 from Nat.and_two_pow_sub_one_eq_mod n 4, hd] at t
        exact t
      have IX := index_dig d hd16
      obtain ⟨p, hp⟩ : ∃ p, i = p + 1 := ⟨60 + f, by have := NF.out; omega⟩
      have hsub : (i : Int) - 1 = (p : Int) := by omega
      have pw : p < 65 := by have := NF.out; omega
      have HP := Lib.hid hp
      have HD := Lib.hid hd
      clear hp hd
      have p0 : (0 : Int) ≤ (p : Int) := by omega
      have p1 : (p : Int) < 65 := by omega
      have p65 : p < bs.length := by rw [HL.out]; omega
      have fz := HH.out.frozen p
      have cell : ∃ z, wr.cell? ⟨B, p, none⟩ = some (.int .u8 z) := by
        refine ⟨bs[p]'p65, ?_⟩
        rw [HH.out.cell]
        simp [u8s, p65]
      obtain ⟨u0, hu0⟩ := cell
      have NB : Hid (∀ z, 0 ≤ z ∧ z < 256 → Holds (wr.setCell ⟨B, p, none⟩ (.int .u8 z)) (pts B (.cells (u8s (bs.set p z)).toArray 91 (0, 0)) * F)) := by
        intro z _
        have h := HH.out.store p (.int .u8 z)
        simpa [u8s, List.map_set] using h
      have NS : Hid (∀ z, Sm w (wr.setCell ⟨B, p, none⟩ (.int .u8 z))) := fun z => HS.out.setCell _ _
      have NX : Hid (hexL 4 u = hexL (f - 1) (n / 16) ++ (bs.set p (dg d)).drop p) := by
        obtain ⟨f1, f2, f3, f4⟩ := NF.out
        have hp := HP.out
        have hlen := HL.out
        show _ = _
        rw [HX.out, show f = (f - 1) + 1 by omega, hexL_more n0, HD.out, List.append_assoc]
        congr 1
        rw [hp, drop_set_at (by omega)]
        rfl
      have NR : Hid (1 ≤ f - 1 ∧ n / 16 < 16 ^ (f - 1) ∧ p = 61 + (f - 1) ∧ f - 1 ≤ 4) := by
        obtain ⟨f1, f2, f3, f4⟩ := NF.out
        have hp := HP.out
        have : f = 1 ∨ f = 2 ∨ f = 3 ∨ f = 4 := by omega
        rcases this with rfl | rfl | rfl | rfl <;> simp only [Hid] <;> omega
      have NL : Hid ((bs.set p (dg d)).length = 65) := by show _ = _; rw [List.length_set]; exact HL.out
      clear HX HH HS HL NF
      go_wp2_with fail
      go_roundw
      case rel => exact ⟨n / 16, f - 1, p, _, by go_num, by go_num, by omega, by omega, NR.out, NL.out, NX.out, NB.out _ (dg_byte d hd16), NS.out _⟩
      case measure => simp [intOf]; omega
    · have e0 : decide ((16 : Int) ≤ (n : Int)) = false := by simp; omega
      have e1 : decide (16 ≤ n) = false := by simpa using hn
      have hn16 : n < 16 := by omega
      have IX := index_dig n hn16
      obtain ⟨p, hp⟩ : ∃ p, i = p + 1 := ⟨60 + f, by have := NF.out; omega⟩
      have hsub : (i : Int) - 1 = (p : Int) := by omega
      have pw : p < 65 := by have := NF.out; omega
      have HP := Lib.hid hp
      clear hp
      have p0 : (0 : Int) ≤ (p : Int) := by omega
      have p1 : (p : Int) < 65 := by omega
      have p65 : p < bs.length := by rw [HL.out]; omega
      have fz := HH.out.frozen p
      have cell : ∃ z, wr.cell? ⟨B, p, none⟩ = some (.int .u8 z) := by
        refine ⟨bs[p]'p65, ?_⟩
        rw [HH.out.cell]
        simp [u8s, p65]
      obtain ⟨u0, hu0⟩ := cell
      have NB : Hid (Holds (wr.setCell ⟨B, p, none⟩ (.int .u8 (dg n))) (pts B (.cells (u8s (bs.set p (dg n))).toArray 91 (0, 0)) * F)) := by
        have h := HH.out.store p (.int .u8 (dg n))
        show Holds _ _
        simpa [u8s, List.map_set] using h
      have NS : Hid (Sm w (wr.setCell ⟨B, p, none⟩ (.int .u8 (dg n)))) := HS.out.setCell _ _
      have NX : Hid (hexL 4 u = (bs.set p (dg n)).drop p) := by
        obtain ⟨f1, f2, f3, f4⟩ := NF.out
        have hp := HP.out
        have hlen := HL.out
        show _ = _
        rw [HX.out, show f = (f - 1) + 1 by omega, hexL_small n0 hn16, drop_set_at (by omega), hp]
        rfl
      have NL : Hid ((bs.set p (dg n)).length = 65) := by show _ = _; rw [List.length_set]; exact HL.out
      obtain ⟨cs, hcs⟩ : ∃ q, bs.set p (dg n) = q := ⟨_, rfl⟩
      rw [hcs] at NB NX NL
      have SLC := slice_arr B p pw
      obtain ⟨m, hm⟩ : ∃ q, 65 - p = q := ⟨_, rfl⟩
      rw [hm] at SLC
      have HNIL : Hid (Holds (wr.setCell ⟨B, p, none⟩ (.int .u8 (dg n))) (rowA 5 1 (.slice none 0 0) 0 [] * (pts B (.cells (u8s cs).toArray 91 (0, 0)) * F))) := rowA_nil NB.out
      have hlm : (hexL 4 u).length = m := by rw [NX.out, List.length_drop, NL.out]; omega
      have HLM := Lib.hid hlm
      have h4m := hexL_len 4 u
      rw [hlm] at h4m
      have NWS : Hid (∀ i v, (u8s (hexL 4 u))[i]? = some v → (wr.setCell ⟨B, p, none⟩ (.int .u8 (dg n))).cell? ((⟨B, p, none⟩ : Addr).add i) = some v) := by
        intro i v hv
        rw [Addr.add_lit, NB.out.cell]
        rw [NX.out] at hv
        simp only [u8s, List.map_drop, List.getElem?_drop] at hv
        simpa [u8s] using hv
      have ONE : Hid (∀ v ∈ u8s (hexL 4 u), v.oneCell' = true) := by intro v hv; obtain ⟨x, -, rfl⟩ := List.mem_map.1 hv; rfl
      have LEN : Hid ((u8s (hexL 4 u)).length = m * 1) := by show _ = _; rw [Nat.mul_one, ← hlm]; simp [u8s]
      clear HX HH HS HL NF hcs hm hlm
      go_wp2_with (at_builtin; refine wpList_append_sep rfl _ _ 22 rfl 5 (.int .u8 0) 1 1 Tryd.underlying22 infoU8 rfl rfl HNIL.out ⟨B, p, none⟩ m m (u8s (hexL 4 u)) rfl LEN.out NWS.out ONE.out (by unfold maxLen; omega) (by omega) ?_)
      intro v' w5 h5 s5 _
      have HF : Hid (Holds w5 (rowA 5 1 v' (hexL 4 u).length (u8s (hexL 4 u)) * F)) := by
        show Holds _ _
        rw [HLM.out]
        exact (h5.eqv (star_left_comm _ _ _)).right
      have SF : Hid (Sm w w5) := NS.out.trans s5
      clear h5 s5 HNIL NB NS NWS
      go_wp2_with fail
      go_ret2
      exact ⟨_, rfl, HF.out, SF.out⟩
end Go.Proofs.YtibhnkkfaochhaaDoor.Fr
