/-
  Layer 17: Scan.
-/
import Derived.Test.YtefcinifaaablaaStrSort
import Derived.Test.YtefcinifaaablaaStr10
import Derived.Shelf.Strings.Prefix
namespace Go.Proofs.Ytefcinifaaablaa.Stripe
open Go.RowKit Go.Sep
set_option maxRecDepth 100000
set_option linter.unusedVariables false
set_option linter.unusedSimpArgs false

def okS (t : Int) (p : List UInt8) (s : Sl) : Bool := decide (s.st = 1 ∧ s.t = t) && p.isPrefixOf s.k
def sel (t : Int) (p : List UInt8) (l : List Sl) : List (List UInt8) := (l.filter (okS t p)).map Sl.k
def selB (t : Int) (p : List UInt8) (B : Bd) : List (List UInt8) := sel t p B.l ++ sel t p B.el
def scanL (t : Int) (p : List UInt8) (Bs : List Bd) : List (List UInt8) := Bs.flatMap (selB t p)
theorem sel_len (t : Int) (p : List UInt8) (l : List Sl) : (sel t p l).length ≤ l.length := by unfold sel; rw [List.length_map]; exact List.length_filter_le _ _
theorem sel_take (t : Int) (p : List UInt8) {l : List Sl} {j : Nat} (hj : j < l.length) : sel t p (l.take (j + 1)) = sel t p (l.take j) ++ (if okS t p l[j] = true then [l[j].k] else []) := by
  unfold sel
  rw [List.take_succ_eq_append_getElem hj, List.filter_append, List.map_append]
  congr 1
  by_cases h : okS t p l[j] = true
  · rw [if_pos h, List.filter_cons_of_pos h]; rfl
  · rw [if_neg h, List.filter_cons_of_neg h]; rfl
theorem scan_take (t : Int) (p : List UInt8) {Bs : List Bd} {i : Nat} (hi : i < Bs.length) : scanL t p (Bs.take (i + 1)) = scanL t p (Bs.take i) ++ selB t p Bs[i] := by
  unfold scanL
  rw [List.take_succ_eq_append_getElem hi, List.flatMap_append]
  simp
theorem scan_len (t : Int) (p : List UInt8) {Bs : List Bd} (hb : ∀ B ∈ Bs, Bas B) : ∀ i, i ≤ Bs.length → (scanL t p (Bs.take i)).length ≤ i * 200000
  | 0, _ => by simp [scanL]
  | i + 1, hi => by
    rw [scan_take t p (by omega), List.length_append]
    have h1 := scan_len t p hb i (by omega)
    have h2 := hb Bs[i] (List.getElem_mem _)
    have h3 := sel_len t p Bs[i].l
    have h4 := sel_len t p Bs[i].el
    have h5 := h2.l1
    have h6 := h2.e1
    unfold selB
    rw [List.length_append]
    omega
theorem nE_flat (t : Int) (l : List (List UInt8)) (k : List UInt8) : l.flatMap (nE t) ++ [Value.int .i64 t, .string (ks k)] = (l ++ [k]).flatMap (nE t) := by simp [nE]
theorem infoNm : (Try.prog.info? 74).map (fun i => (i.zero, i.size, i.bytes)) = some (some (.agg #[.int .i64 0, .string ⟨#[]⟩]), 2, 24) := by kernel_rfl
/-- a row of slots that the table holds -/
structure SlSrc (A : Asr) (ao : Option Addr) (l : List Sl) : Prop where
  at' : ∀ (G : Asr) (wq : World), Holds wq (A * G) → ∀ j (hj : j < l.length), ∃ g, ao = some ⟨g, 0, none⟩ ∧ SlF wq g j l[j]
theorem src_l (tb gb : Nat) (Bs : List Bd) (i : Nat) (hi : i < Bs.length) : SlSrc (tabA tb gb Bs) (some ⟨Bs[i].g, 0, none⟩) Bs[i].l := by
  refine ⟨fun G wq hq j hj => ⟨_, rfl, ?_⟩⟩
  have h := tab_at hq i hi
  rw [show rowsA Bs[i] = slA Bs[i].g Bs[i].l * elA Bs[i].eg Bs[i].el from rfl] at h
  exact sl_f (h.eqv (by ac_rfl : _ = slA Bs[i].g Bs[i].l * (bdA gb Bs * (elA Bs[i].eg Bs[i].el * (pts tb (.cells #[.slice (some ⟨gb, 0, none⟩) Bs.length Bs.length] 133 (0, 0)) * (big rowsA (Bs.eraseIdx i) * G)))))) j hj
theorem src_e (tb gb : Nat) (Bs : List Bd) (i : Nat) (hi : i < Bs.length) : SlSrc (tabA tb gb Bs) (Bs[i].eg.map fun g => ⟨g, 0, none⟩) Bs[i].el := by
  refine ⟨fun G wq hq j hj => ?_⟩
  have h := tab_at hq i hi
  rw [show rowsA Bs[i] = slA Bs[i].g Bs[i].l * elA Bs[i].eg Bs[i].el from rfl] at h
  have h2 := h.eqv (by ac_rfl : _ = elA Bs[i].eg Bs[i].el * (bdA gb Bs * (slA Bs[i].g Bs[i].l * (pts tb (.cells #[.slice (some ⟨gb, 0, none⟩) Bs.length Bs.length] 133 (0, 0)) * (big rowsA (Bs.eraseIdx i) * G)))))
  cases he : Bs[i].eg with
  | none =>
    rw [he] at h2
    have := (el_none h2).1
    rw [this] at hj; simp at hj
  | some g =>
    rw [he] at h2
    exact ⟨g, rfl, sl_f (el_some h2).2 j hj⟩
def ScanC (tb gb : Nat) (Bs : List Bd) (t : Int) (p : List UInt8) (F : Asr) (w : World) (e : Ending) (w' : World) : Prop := ∃ v, e = .returned v ∧ Holds w' (rowA 74 2 v (sortK (scanL t p Bs)).length ((sortK (scanL t p Bs)).flatMap (nE t)) * (tabA tb gb Bs * F)) ∧ Sm w w'
def partN (t : Int) (p : List UInt8) (B : Bd) : Nat → List (List UInt8)
  | 0 => []
  | 1 => sel t p B.l
  | _ => selB t p B
theorem part_len (t : Int) (p : List UInt8) (B : Bd) (m : Nat) : (partN t p B m).length ≤ B.l.length + B.el.length := by
  have h1 := sel_len t p B.l
  have h2 := sel_len t p B.el
  unfold partN
  split
  · simp
  · omega
  · unfold selB; rw [List.length_append]; omega
set_option maxHeartbeats 16000000 in
theorem scan_calls (tb gb : Nat) (Bs : List Bd) (h0 : 0 < Bs.length) (h1 : Bs.length ≤ 64) (hb : ∀ B ∈ Bs, Bas B) (t : Int) (p : List UInt8) (F : Asr) (w : World) (hw : Holds w (tabA tb gb Bs * F)) :
    Calls Try.prog 37 #[.pointer (some ⟨tb, 0, none⟩), .int .i64 t, .string (ks p)] w (ScanC tb gb Bs t p F w) := by
  have NC := Lib.hid (none_calls tb gb Bs h0 F w hw)
  have HW := Lib.hid hw
  have HB := Lib.hid hb
  have H1 := Lib.hid h1
  have HPC : Hid (∀ (k : List UInt8) wq, Calls Try.prog 65 #[.string (ks k), .string (ks p)] wq fun e w' => e = .returned (.bool (p.isPrefixOf k)) ∧ w' = wq) := fun k wq => by
    have h := Any.strings_HasPrefix Try.lays99 (ks k) (ks p) wq
    have e1 : (ks k).data.toList = k := sk_ks k
    have e2 : (ks p).data.toList = p := sk_ks p
    rw [e1, e2] at h
    exact h
  obtain ⟨N, hN⟩ : ∃ q, ks p = q := ⟨_, rfl⟩
  rw [hN] at HPC ⊢
  clear hw hb h1 hN
  go_enter Try.func37, Try.ntmps37
  go_wp2_with fail
  refine (NC.out).mono ?_
  rintro e w1 ⟨rfl, rfl⟩
  have c0 := tab_c HW.out
  go_wp2_with fail
  clear c0 NC
  go_loopw [7, 20] (fun x7 x20 wl => ∃ (i : Nat), x20 = .int .i64 i ∧ i ≤ Bs.length ∧ Hid (Holds wl (rowA 74 2 x7 (scanL t p (Bs.take i)).length ((scanL t p (Bs.take i)).flatMap (nE t)) * (tabA tb gb Bs * F))) ∧ Hid (Sm w1 wl)) (fun _ x20 _ => Bs.length - (intOf x20).toNat)
  case atStart => exact ⟨0, rfl, Nat.zero_le _, rowA_nil HW.out, Sm.refl _⟩
  case round =>
    obtain ⟨i, rfl, hi, HH, HS⟩ := hrel
    by_cases hin : i < Bs.length
    · have hT := HH.out.eqv (star_left_comm _ _ _)
      have c0 := tab_c hT
      obtain ⟨d0, d1, d2, d3, d4, dz, dt⟩ := bd_f (tab_at hT i hin) i hin
      unfold slV at d2
      have SL := Lib.hid (src_l tb gb Bs i hin)
      have SE := Lib.hid (src_e tb gb Bs i hin)
      have hbas := HB.out _ (List.getElem_mem hin)
      have hl1 := hbas.l1
      have he1 := hbas.e1
      have ACL := scan_len t p HB.out i hi
      have h64 := H1.out
      have HTK := Lib.hid (scan_take t p hin)
      obtain ⟨acc, hacc⟩ : ∃ q, scanL t p (Bs.take i) = q := ⟨_, rfl⟩
      rw [hacc] at HH HTK ACL hT
      obtain ⟨Bx, hBx⟩ : ∃ q, Bs[i] = q := ⟨_, rfl⟩
      rw [hBx] at d0 d2 SL SE hl1 he1 HTK
      obtain ⟨ae, hae⟩ : ∃ q : Option Addr, (Bx.eg.map fun g => (⟨g, 0, none⟩ : Addr)) = q := ⟨_, rfl⟩
      rw [hae] at d2 SE
      have i0 : (0 : Int) ≤ (i : Int) := by omega
      have i1 : (i : Int) < (Bs.length : Int) := by omega
      have HX := Lib.hid (((hT.alloc (.cells #[.slice (some ⟨Bx.g, 0, none⟩) Bx.l.length Bx.l.length, .slice ae Bx.el.length Bx.el.length] 134)).drew).eqv (by ac_rfl : _ = rowA 74 2 u7 acc.length (acc.flatMap (nE t)) * (pts wr.heap.size (.cells #[.slice (some ⟨Bx.g, 0, none⟩) Bx.l.length Bx.l.length, .slice ae Bx.el.length Bx.el.length] 134 (0, 0)) * (tabA tb gb Bs * F))))
      have SX := Lib.hid ((HS.out.alloc (.cells #[.slice (some ⟨Bx.g, 0, none⟩) Bx.l.length Bx.l.length, .slice ae Bx.el.length Bx.el.length] 134)).drew)
      clear d1 d3 d4 hT hacc hBx hae hbas HH HS
      go_wp2_with fail
      go_region
      go_wp2_with fail
      obtain ⟨nb, hnb⟩ : ∃ q, wr.heap.size = q := ⟨_, rfl⟩
      obtain ⟨WX, hWX⟩ : ∃ q, (wr.alloc (.cells #[.slice (some ⟨Bx.g, 0, none⟩) Bx.l.length Bx.l.length, .slice ae Bx.el.length Bx.el.length] 134)).drew = q := ⟨_, rfl⟩
      rw [hWX] at HX SX ⊢
      rw [hnb] at HX ⊢
      clear hnb hWX d0 d2 dz dt c0
      go_loopw [7, 41] (fun y7 y41 wl => ∃ m : Nat, y41 = .int .i64 m ∧ m ≤ 2 ∧ Hid (Holds wl (rowA 74 2 y7 (acc ++ partN t p Bx m).length ((acc ++ partN t p Bx m).flatMap (nE t)) * (pts nb (.cells #[.slice (some ⟨Bx.g, 0, none⟩) Bx.l.length Bx.l.length, .slice ae Bx.el.length Bx.el.length] 134 (0, 0)) * (tabA tb gb Bs * F)))) ∧ Hid (Sm w1 wl)) (fun _ y41 _ => 2 - (intOf y41).toNat)
      case atStart => exact ⟨0, rfl, by omega, HX.out.eqv (by show _ = rowA 74 2 u7 (acc ++ []).length ((acc ++ []).flatMap (nE t)) * _; rw [List.append_nil]), SX.out⟩
      case round =>
        clear HX SX
        obtain ⟨m, rfl, hm, HH, HS⟩ := hrel
        by_cases hm2 : m < 2
        · have hX := HH.out.eqv (star_left_comm _ _ _)
          have hcm := hX.cell m
          have PL := part_len t p Bx m
          obtain ⟨ao, l, hcell, hsrc, hll, hpart⟩ : ∃ ao l, (#[.slice (some ⟨Bx.g, 0, none⟩) Bx.l.length Bx.l.length, .slice ae Bx.el.length Bx.el.length] : Array Value)[m]? = some (.slice ao l.length l.length) ∧ SlSrc (tabA tb gb Bs) ao l ∧ l.length ≤ 100000 ∧ partN t p Bx (m + 1) = partN t p Bx m ++ sel t p l := by
            have : m = 0 ∨ m = 1 := by omega
            rcases this with rfl | rfl
            · exact ⟨_, Bx.l, rfl, SL.out, hl1, rfl⟩
            · exact ⟨_, Bx.el, rfl, SE.out, he1, rfl⟩
          rw [hcell] at hcm
          have HP := Lib.hid hpart
          have HSR := Lib.hid hsrc
          obtain ⟨acc2, hacc2⟩ : ∃ q, acc ++ partN t p Bx m = q := ⟨_, rfl⟩
          have HA2 := Lib.hid hacc2
          have ACL2 : acc2.length ≤ i * 200000 + 200000 := by rw [← hacc2, List.length_append]; omega
          rw [hacc2] at HH
          obtain ⟨n, hn⟩ : ∃ q, l.length = q := ⟨_, rfl⟩
          have HN := Lib.hid hn
          rw [hn] at hcm hll
          have j0 : (0 : Int) ≤ (m : Int) := by omega
          have j1 : (m : Int) < 2 := by omega
          clear hX hpart hsrc hacc2 hn hcell PL
          go_wp2_with fail
          go_loopw [7, 47] (fun z7 z47 wl => ∃ j : Nat, z47 = .int .i64 j ∧ j ≤ n ∧ Hid (Holds wl (rowA 74 2 z7 (acc2 ++ sel t p (l.take j)).length ((acc2 ++ sel t p (l.take j)).flatMap (nE t)) * (pts nb (.cells #[.slice (some ⟨Bx.g, 0, none⟩) Bx.l.length Bx.l.length, .slice ae Bx.el.length Bx.el.length] 134 (0, 0)) * (tabA tb gb Bs * F)))) ∧ Hid (Sm w1 wl)) (fun _ z47 _ => n - (intOf z47).toNat)
          case atStart => exact ⟨0, rfl, Nat.zero_le _, HH.out.eqv (by rw [show sel t p (l.take 0) = [] from rfl, List.append_nil]), HS.out⟩
          case round =>
            clear HH HS hcm
            obtain ⟨j, rfl, hj, HH, HS⟩ := hrel
            by_cases hjn : j < n
            · have hjl : j < l.length := by rw [HN.out]; exact hjn
              have hT := HH.out.eqv (by ac_rfl : _ = tabA tb gb Bs * (rowA 74 2 u7 (acc2 ++ sel t p (l.take j)).length ((acc2 ++ sel t p (l.take j)).flatMap (nE t)) * (pts nb (.cells #[.slice (some ⟨Bx.g, 0, none⟩) Bx.l.length Bx.l.length, .slice ae Bx.el.length Bx.el.length] 134 (0, 0)) * F)))
              obtain ⟨g, rfl, s0, s1, s2, s3, sz, st⟩ := HSR.out.at' _ _ hT j hjl
              have TK := Lib.hid (sel_take t p hjl)
              have SLN : (sel t p (l.take j)).length ≤ j := Nat.le_trans (sel_len t p _) (by rw [List.length_take]; omega)
              obtain ⟨L2, hL2⟩ : ∃ q, acc2 ++ sel t p (l.take j) = q := ⟨_, rfl⟩
              have HL2 := Lib.hid hL2
              have L2N : L2.length ≤ 20000000 := by rw [← hL2, List.length_append]; omega
              rw [hL2] at HH
              obtain ⟨s, hs⟩ : ∃ q, l[j] = q := ⟨_, rfl⟩
              rw [hs] at s0 s1 s2 s3 TK
              have HSK : Hid (okS t p s = false → ∀ wq v, Holds wq (rowA 74 2 v L2.length (L2.flatMap (nE t)) * (pts nb (.cells #[.slice (some ⟨Bx.g, 0, none⟩) Bx.l.length Bx.l.length, .slice ae Bx.el.length Bx.el.length] 134 (0, 0)) * (tabA tb gb Bs * F))) → Holds wq (rowA 74 2 v (acc2 ++ sel t p (l.take (j + 1))).length ((acc2 ++ sel t p (l.take (j + 1))).flatMap (nE t)) * (pts nb (.cells #[.slice (some ⟨Bx.g, 0, none⟩) Bx.l.length Bx.l.length, .slice ae Bx.el.length Bx.el.length] 134 (0, 0)) * (tabA tb gb Bs * F)))) := by
                intro hf wq v hq
                rw [TK.out, hf, if_neg (by simp), List.append_nil, HL2.out]
                exact hq
              have HAP : Hid (okS t p s = true → acc2 ++ sel t p (l.take (j + 1)) = L2 ++ [s.k]) := by
                intro hf
                rw [TK.out, hf, if_pos rfl, ← List.append_assoc, HL2.out]
              have PC := Lib.hid (HPC.out s.k)
              have k0 : (0 : Int) ≤ (j : Int) := by omega
              have k1 : (j : Int) < (n : Int) := by omega
              have HOKS : Hid (okS t p s = (decide (s.st = 1 ∧ s.t = t) && p.isPrefixOf s.k)) := rfl
              obtain ⟨sk', hsk⟩ : ∃ q, ks s.k = q := ⟨_, rfl⟩
              rw [hsk] at s2 PC
              have HSKK := Lib.hid hsk
              have HH2 := Lib.hid (HH.out.alloc (.cells #[.int .i64 s.st, .int .i64 s.t, .string sk', .int .i64 s.v] 142)).right
              have HS2 := Lib.hid (HS.out.alloc (.cells #[.int .i64 s.st, .int .i64 s.t, .string sk', .int .i64 s.v] 142))
              have M1 : Hid (L2.length + 1 ≤ maxLen) := by show _ ≤ _; unfold maxLen; omega
              have M2 : Hid ((L2.length + 1) * 24 ≤ 140737488355328) := by show _ ≤ _; omega
              clear hT hL2 hs hsk HH HS SLN
              by_cases q1 : s.st = 1
              · rw [q1] at s0
                by_cases q2 : s.t = t
                · have t2 : (s.t == t) = true := by simp [q2]
                  cases hp : p.isPrefixOf s.k with
                  | true =>
                    rw [hp] at PC
                    have hok := HAP.out (by rw [HOKS.out, hp, decide_eq_true ⟨q1, q2⟩]; rfl)
                    rw [q1] at HH2 HS2
                    have HA := Lib.hid (((HH2.out.alloc (.cells #[.int .i64 s.t, .string sk'] 74)).right).eqv (by ac_rfl : _ = rowA 74 2 u7 L2.length (L2.flatMap (nE t)) * (pts nb (.cells #[.slice (some ⟨Bx.g, 0, none⟩) Bx.l.length Bx.l.length, .slice ae Bx.el.length Bx.el.length] 134 (0, 0)) * (tabA tb gb Bs * F))))
                    have SA := Lib.hid (HS2.out.alloc (.cells #[.int .i64 s.t, .string sk'] 74))
                    have NC := cells_new (wr.alloc (.cells #[.int .i64 ((1 : Nat) : Int), .int .i64 s.t, .string sk', .int .i64 s.v] 142)) #[.int .i64 s.t, .string sk'] 74 [.int .i64 s.t, .string sk'] rfl
                    rw [World.size_alloc] at NC
                    have NC2 := Lib.hid NC
                    have HOK := Lib.hid hok
                    have q2' := Lib.hid q2
                    clear q1 q2 hp HSK HAP HOKS NC HH2 HS2 hok
                    go_wp2_with fail
                    refine (PC.out _).mono ?_
                    rintro e w4 ⟨rfl, rfl⟩
                    go_wp2_with (at_builtin; refine wpList_append_sep rfl _ _ 77 rfl 74 (.agg #[.int .i64 0, .string ⟨#[]⟩]) 2 24 Try.underlying77 infoNm rfl rfl HA.out ⟨wr.heap.size + 1, 0, none⟩ 1 1 [.int .i64 s.t, .string sk'] rfl rfl NC2.out (by simp [Value.oneCell']) M1.out M2.out ?_)
                    intro v' w5 h5 s5 hvv
                    clear hvv
                    have HN2 : Hid (Holds w5 (rowA 74 2 v' (acc2 ++ sel t p (l.take (j + 1))).length ((acc2 ++ sel t p (l.take (j + 1))).flatMap (nE t)) * (pts nb (.cells #[.slice (some ⟨Bx.g, 0, none⟩) Bx.l.length Bx.l.length, .slice ae Bx.el.length Bx.el.length] 134 (0, 0)) * (tabA tb gb Bs * F)))) := by
                      show Holds _ _
                      rw [HOK.out, List.length_append, ← nE_flat, HSKK.out]
                      rw [q2'.out] at h5
                      exact h5
                    have SN2 := Lib.hid (SA.out.trans s5)
                    clear h5 s5 HA SA NC2 HOK q2' M1 M2
                    go_wp2_with fail
                    go_roundw
                    case rel => exact ⟨j + 1, by go_num, by omega, HN2.out, SN2.out⟩
                    case measure => simp [intOf]; omega
                  | false =>
                    rw [hp] at PC
                    have hok := Lib.hid (HSK.out (by rw [HOKS.out, hp, Bool.and_false]))
                    rw [q1] at HH2 HS2
                    have q2' := Lib.hid q2
                    clear q1 q2 hp HSK HAP HOKS
                    go_wp2_with fail
                    refine (PC.out _).mono ?_
                    rintro e w4 ⟨rfl, rfl⟩
                    go_wp2_with fail
                    go_roundw
                    case rel => exact ⟨j + 1, by go_num, by omega, hok.out _ _ HH2.out, HS2.out⟩
                    case measure => simp [intOf]; omega
                · have t2 : (s.t == t) = false := by simpa using q2
                  have hok := Lib.hid (HSK.out (by rw [HOKS.out, decide_eq_false (fun h => q2 h.2), Bool.false_and]))
                  rw [q1] at HH2 HS2
                  clear q1 q2 HSK HAP HOKS
                  go_wp2_with fail
                  go_roundw
                  case rel => exact ⟨j + 1, by go_num, by omega, hok.out _ _ HH2.out, HS2.out⟩
                  case measure => simp [intOf]; omega
              · have t2 : ((s.st : Int) == 1) = false := beq_eq_false_iff_ne.2 (by omega)
                have t2' : (s.st == 1) = false := beq_eq_false_iff_ne.2 q1
                have hok := Lib.hid (HSK.out (by rw [HOKS.out, decide_eq_false (fun h => q1 h.1), Bool.false_and]))
                clear q1 HSK HAP HOKS
                go_wp2_with fail
                go_roundw
                case rel => exact ⟨j + 1, by go_num, by omega, hok.out _ _ HH2.out, HS2.out⟩
                case measure => simp [intOf]; omega
            · obtain rfl : j = n := by omega
              have HE : Hid (Holds wr (rowA 74 2 u7 (acc ++ partN t p Bx (m + 1)).length ((acc ++ partN t p Bx (m + 1)).flatMap (nE t)) * (pts nb (.cells #[.slice (some ⟨Bx.g, 0, none⟩) Bx.l.length Bx.l.length, .slice ae Bx.el.length Bx.el.length] 134 (0, 0)) * (tabA tb gb Bs * F)))) := by
                have h := HH.out
                rw [← HN.out, List.take_length] at h
                rw [HP.out, ← List.append_assoc, HA2.out]
                exact h
              clear HH
              go_wp2_with fail
              go_roundw
              case rel => exact ⟨m + 1, by go_num, by omega, HE.out, HS.out⟩
              case measure => simp [intOf]; omega
        · obtain rfl : m = 2 := by omega
          have HE : Hid (Holds wr (rowA 74 2 u7 (scanL t p (Bs.take (i + 1))).length ((scanL t p (Bs.take (i + 1))).flatMap (nE t)) * (tabA tb gb Bs * F))) := by
            show Holds _ _
            rw [HTK.out]
            exact (HH.out.eqv (star_left_comm _ _ _)).right
          clear HH
          go_wp2_with fail
          go_roundw
          case rel => exact ⟨i + 1, by go_num, by omega, HE.out, HS.out⟩
          case measure => simp [intOf]; omega
    · obtain rfl : i = Bs.length := by omega
      have hH := HH.out
      rw [List.take_length] at hH
      have ACL := scan_len t p HB.out Bs.length (Nat.le_refl _)
      rw [List.take_length] at ACL
      have h64 := H1.out
      obtain ⟨ao, cap, hv, -⟩ := rowA_slice hH
      have SC := Lib.hid (sort_calls t ao cap (scanL t p Bs) (by omega) (tabA tb gb Bs * F) wr (by rw [← hv]; exact hH))
      rw [← hv] at SC
      have SL := Lib.hid (sortK_len (scanL t p Bs))
      clear hH HH hv ACL h64 hi hin
      go_wp2_with fail
      refine (SC.out).mono ?_
      rintro e w5 ⟨rfl, h5, s5⟩
      have H5 := Lib.hid h5
      have S5 := Lib.hid (HS.out.trans s5)
      clear h5 s5 SC HS
      go_wp2_with fail
      go_ret
      exact ⟨_, rfl, by rw [SL.out]; exact H5.out, S5.out⟩
#print axioms scan_calls
end Go.Proofs.Ytefcinifaaablaa.Stripe
