/-
  Layer 27: Check.
-/
import Derived.Test.YtefcinifaaablaaOrd6
namespace Go.Proofs.Ytefcinifaaablaa.Ord
open Go.RowKit Go.Sep
set_option maxRecDepth 100000
set_option linter.unusedVariables false
set_option linter.unusedSimpArgs false

def runO (ops : List OpD) (i : Nat) : St := (ops.take i).foldl (fun st o => (stepO o st).1) (none, 0)
theorem runO_succ (ops : List OpD) (i : Nat) (o : OpD) (h : ops[i]? = some o) : runO ops (i + 1) = (stepO o (runO ops i)).1 := by
  obtain ⟨h1, rfl⟩ := List.getElem?_eq_some_iff.1 h
  unfold runO
  rw [List.take_succ_eq_append_getElem h1, List.foldl_append]
  rfl
structure IsOps (w : World) (b off : Nat) (ops : List OpD) : Prop where
  cell : ∀ i o, ops[i]? = some o → ∀ j v, o.cs[j]? = some v → w.cell? ⟨b, off + i * 7 + j, none⟩ = some v
def RunOk (w0 : World) (ops : List OpD) (m : Nat) : Prop := ∀ i o, ops[i]? = some o → i ≤ m → OkO w0 o (runO ops i) ∧ (i < m → (stepO o (runO ops i)).2 = 0)
set_option maxHeartbeats 4000000 in
theorem check_calls (b off n cap m : Nat) (ops : List OpD) (at' rr : Int) (w0 : World) (hn : ops.length = n) (hn9 : n ≤ 1000) (hO : IsOps w0 b off ops) (hR : RunOk w0 ops m) (hmn : m ≤ n)
    (hres : (m = n ∧ at' = 0 ∧ rr = 0) ∨ ∃ o, ops[m]? = some o ∧ at' = m ∧ rr = (stepO o (runO ops m)).2 ∧ rr ≠ 0) :
    Calls Try.prog 29 #[.slice (some ⟨b, off, none⟩) n cap] w0 fun e w' => e = .returned (.tuple #[.int .i64 at', .int .i64 rr]) ∧ Below w0.heap.size w0 w' := by
  have FR := Lib.hid (fresh_calls (all w0) w0 (holds_all w0))
  have HO := Lib.hid hO
  have HR := Lib.hid hR
  have HN := Lib.hid hn
  have HRES := Lib.hid hres
  clear hO hR hn hres
  go_enter Try.func29, Try.ntmps29
  go_wp2_with fail
  refine (FR.out).mono ?_
  rintro e w1 ⟨s, rfl, h1, s1⟩
  have H1 := Lib.hid h1
  have S1 := Lib.hid s1
  clear h1 s1 FR
  go_wp2_with fail
  go_loopw [11] (fun x wl => ∃ i : Nat, x = .int .i64 i ∧ i ≤ m ∧ Hid (Holds wl (stA s (runO ops i).1 (runO ops i).2 * all w0)) ∧ Hid (Sm w0 wl)) (fun x _ => n - (intOf x).toNat)
  case atStart => exact ⟨0, rfl, Nat.zero_le _, H1.out, S1.out⟩
  case round =>
    clear H1 S1
    obtain ⟨i, rfl, hi, HH, HS⟩ := hrel
    by_cases hin : i < n
    · have hif : i < ops.length := by rw [HN.out]; exact hin
      obtain ⟨o, ho⟩ : ∃ o, ops[i]? = some o := ⟨_, List.getElem?_eq_getElem hif⟩
      have hok := HR.out i o ho hi
      have hst := runO_succ ops i o ho
      have hce := HO.out.cell i o ho
      have HOI := Lib.hid ho
      obtain ⟨st, hst2⟩ : ∃ q, runO ops i = q := ⟨_, rfl⟩
      have HST := Lib.hid hst2
      rw [hst2] at hok hst HH
      obtain ⟨kd, key, id, ga, gn, gc⟩ := o
      have ac : ∀ j v, (OpD.cs ⟨kd, key, id, ga, gn, gc⟩)[j]? = some v → wr.cell? ⟨b, off + i * 7 + j, none⟩ = some v := fun j v hv => all_cell HH.out (hce j v hv)
      have c0 := ac 0 _ rfl
      have c1 := ac 1 _ rfl
      have c2 := ac 2 _ rfl
      have c3 := ac 3 _ rfl
      have c4 := ac 4 _ rfl
      have c5 := ac 5 _ rfl
      have c6 := ac 6 _ rfl
      rw [Nat.add_zero] at c0
      have i0 : (0 : Int) ≤ (i : Int) := by omega
      have i1 : (i : Int) < (n : Int) := by omega
      obtain ⟨W2, hW2⟩ : ∃ W9, wr.alloc (.cells #[.int .i64 kd, .int .i64 1, .string key, .string ⟨#[]⟩, .string ⟨#[]⟩, .int .i64 id, .slice ga gn gc] 63) = W9 := ⟨_, rfl⟩
      have hb : Below wr.heap.size wr W2 := by rw [← hW2]; exact (Below.refl _ wr).alloc (Nat.le_refl _) _
      have DO := Lib.hid (do_calls s ⟨kd, key, id, ga, gn, gc⟩ st w0 hok.1 W2 (HH.out.grow hb))
      have S2 : Hid (Sm w0 W2) := HS.out.trans (Sm.of_below hb)
      have HZ : Hid (i < m → (stepO ⟨kd, key, id, ga, gn, gc⟩ st).2 = 0) := hok.2
      have HST2 : Hid (runO ops (i + 1) = (stepO ⟨kd, key, id, ga, gn, gc⟩ st).1) := hst
      obtain ⟨⟨⟨x2, l2⟩, r⟩, hsp⟩ : ∃ q, stepO ⟨kd, key, id, ga, gn, gc⟩ st = q := ⟨_, rfl⟩
      have HSP := Lib.hid hsp
      unfold DoC at DO
      rw [hsp] at DO HZ HST2
      unfold OpD.val opV at DO
      simp only at DO HZ HST2
      clear hok hst hce ho hst2 ac hsp hb
      subst hW2
      go_wp2_with fail
      refine (DO.out).mono ?_
      rintro e w3 ⟨rfl, h3, s3⟩
      have H3 := Lib.hid h3
      have S3 : Hid (Sm w0 w3) := S2.out.trans s3
      clear h3 s3 DO S2 HH HS c0 c1 c2 c3 c4 c5 c6
      by_cases him : i < m
      · have hr0 := HZ.out him
        subst hr0
        clear HZ
        go_wp2_with fail
        go_roundw
        case rel => exact ⟨i + 1, by go_num, by omega, by rw [HST2.out]; exact H3.out, S3.out⟩
        case measure => simp [intOf]; omega
      · obtain rfl : i = m := by omega
        have hfin : at' = (i : Int) ∧ rr = r ∧ r ≠ 0 := by
          rcases HRES.out with ⟨h, -, -⟩ | ⟨o2, h, h1, h2, h3⟩
          · omega
          · have h4 : rr = r := by
              rw [h2, HST.out, Option.some.inj (h.symm.trans HOI.out), HSP.out]
            exact ⟨h1, h4, h4 ▸ h3⟩
        obtain ⟨rfl, rfl, hr0⟩ := hfin
        have ne0 : (rr != 0) = true := by simpa using hr0
        have FIN := Lib.hid (Holds.below H3.out S3.out)
        clear HZ HRES
        go_wp2_with fail
        go_ret2
        exact ⟨rfl, FIN.out⟩
    · obtain rfl : i = n := by omega
      have hfin : at' = 0 ∧ rr = 0 := by
        rcases HRES.out with ⟨h, h1, h2⟩ | ⟨o, h, -⟩
        · exact ⟨h1, h2⟩
        · have := (List.getElem?_eq_some_iff.1 h).1; rw [HN.out] at this; omega
      obtain ⟨rfl, rfl⟩ := hfin
      have FIN := Lib.hid (Holds.below HH.out HS.out)
      clear HRES
      go_wp2_with fail
      go_ret2
      exact ⟨rfl, FIN.out⟩
#print axioms check_calls
end Go.Proofs.Ytefcinifaaablaa.Ord
