/-
  Layer 27: any over one version; out.
-/
import Derived.Test.YtefcinifaaablaaOrd2
import Derived.Deep.RegionHeld3
import Derived.StillTailTactics
namespace Go.Proofs.Ytefcinifaaablaa.Ord
open Go.RowKit Go.Sep
set_option maxRecDepth 100000
set_option linter.unusedVariables false
set_option linter.unusedSimpArgs false

theorem lk1_calls (bx : Nat) (w : World) (h2 : w.cell? ⟨bx, 2, none⟩ = some (.string ⟨#[47, 107]⟩)) (hb : bx < w.heap.size) : Calls Try.prog 94 #[vE (), .pointer (some ⟨bx, 0, none⟩)] w fun e w' => e = .returned (.bool true) ∧ Below w.heap.size w w' := by
  unfold vE
  have E1 : ((ByteArray.mk #[47, 107]).toList == [47, 107]) = true := by rw [Go.Lib.toList_data]; rfl
  have E2 : ((ByteArray.mk #[]).toList == []) = true := by rw [Go.Lib.toList_data]; rfl
  have B0 : Hid (Below w.heap.size w (w.alloc (.cells #[.int .i64 1, .string ⟨#[47, 107]⟩, .string ⟨#[]⟩, .string ⟨#[]⟩] 162))) := (Below.refl _ w).alloc (Nat.le_refl _) _
  have hne : bx ≠ w.heap.size := by omega
  go_enter Try.func94, Try.ntmps94
  go_wp2_with fail
  go_ret
  exact ⟨rfl, B0.out⟩
#print axioms lk1_calls
set_option maxHeartbeats 4000000 in
theorem any_one (s ma mh c born bx : Nat) (i : Int) (l : Int) (w : World) (h1 : w.cell? ⟨s, 1, none⟩ = some (.map (some mh))) (hm : w.heap[mh]? = some (.map #[⟨wE i, vE (), born⟩] c)) (hbc : born < c) (hx : w.cell? ⟨bx, 2, none⟩ = some (.string ⟨#[47, 107]⟩)) (hb : bx < w.heap.size) :
    Calls Try.prog 93 #[.pointer (some ⟨s, 0, none⟩), .int .i64 1, .func (.func 94) #[] #[.pointer (some ⟨bx, 0, none⟩)]] w fun e w' => e = .returned (.bool true) ∧ Below w.heap.size w w' := by
  have HM := Lib.hid hm
  have HBC := Lib.hid hbc
  have B1 : Hid (Below w.heap.size w (w.alloc (.mapIter (some mh) c #[born] c))) := (Below.refl _ w).alloc (Nat.le_refl _) _
  have CL : Hid (∀ wq, Below w.heap.size w wq → _) := fun wq hq => lk1_calls bx wq ((hq.cell (p := ⟨bx, 2, none⟩) hb).trans hx) (Nat.lt_of_lt_of_le hb hq.size)
  clear hm hbc hx hb
  unfold vE at CL
  go_enter Try.func93, Try.ntmps93
  go_wp2_with (refine wpList_range_map rfl _ _ rfl Try.underlying125 rfl HM.out ?_)
  simp only [Act.put, List.setIfInBounds_toArray, List.set_cons_zero, List.set_cons_succ]
  go_loopw [6] (fun x wl => x = .bool false ∧ wl = w.alloc (.mapIter (some mh) c #[] c)) (fun _ _ => 0)
  case atStart => exact ⟨rfl, rfl⟩
  case round =>
    obtain ⟨rfl, rfl⟩ := hrel
    go_wp2_with (first | (refine wpList_next1 rfl _ rfl HM.out HBC.out rfl ?_) | (refine wpList_entry1 rfl _ rfl HM.out rfl ?_; unfold wE vE))
    have BX : Hid (Below w.heap.size w (((w.alloc (.mapIter (some mh) c #[born] c)).alloc (.cells #[.int .i64 1, .int .i64 i] 129)).alloc (.cells #[.int .i64 1, .string ⟨#[47, 107]⟩, .string ⟨#[]⟩, .string ⟨#[]⟩] 162))) := (B1.out.alloc B1.out.size _).alloc (by simp; omega) _
    refine (CL.out _ BX.out).mono ?_
    rintro e w3 ⟨rfl, b3⟩
    have BY : Hid (Below w.heap.size w w3) := BX.out.trans (b3.mono BX.out.size)
    clear b3 CL
    go_wp2_with fail
    go_ret
    exact ⟨rfl, BY.out⟩
#print axioms any_one
theorem look_one {P : Program} {kt et t : TypeId} {κ : Type} {ke : κ → Value} {ok : κ → Prop} (KT : KeyT P kt ke ok) (ht : P.underlying t = some (.map kt et)) {z : Value} (hz : ∀ w, (zeroValue et).run P w = .ok z w) {w : World} {b born clock : Nat} {v : Value} {k : κ} (hk : ok k)
    (hb : w.heap[b]? = some (.map #[⟨ke k, v, born⟩] clock)) (c : Bool) : (Instr.lookup t (.map (some b)) (ke k) c).run P w = .ok (if c then .tuple #[v, .bool true] else v) w := by
  obtain ⟨kl, hkl⟩ := KT.rd k hk
  rcases KT.K.find w hkl [⟨ke k, v, born⟩] (by simp; exact ⟨kl, hkl⟩) with ⟨r1, r2⟩ | ⟨j, e0, r1, r2, r3⟩
  · exact absurd rfl (r2 _ (List.mem_singleton.2 rfl))
  · have hj : j = 0 := by have := (List.getElem?_eq_some_iff.1 r2).1; simp at this; exact this
    subst hj
    simp at r2
    subst r2
    simp [Instr.lookup, run_underlying ht, MapKept.run_getObj_map hb, KT.K.check w _ hkl, r1, Result.andThen]
def opV (kind : Int) (key : ByteArray) (id : Int) (ga : Option Addr) (gn gc : Nat) : Value := .agg #[.int .i64 kind, .int .i64 1, .string key, .string ⟨#[]⟩, .string ⟨#[]⟩, .int .i64 id, .slice ga gn gc]
theorem out0_calls (s : Nat) (kind : Int) (key p : ByteArray) (id : Int) (w : World) : Calls Try.prog 95 #[.pointer (some ⟨s, 0, none⟩), opV kind key id none 0 0, .string p] w fun e w' => e = .returned (.int .i64 0) ∧ Below w.heap.size w w' := by
  unfold opV
  have B1 : Hid (Below w.heap.size w (w.alloc (.cells #[.int .i64 kind, .int .i64 1, .string key, .string ⟨#[]⟩, .string ⟨#[]⟩, .int .i64 id, .slice none 0 0] 63))) := (Below.refl _ w).alloc (Nat.le_refl _) _
  go_enter Try.func95, Try.ntmps95
  go_wp2_with fail
  go_loopw [14] (fun x wl => x = .int .i64 0 ∧ wl = w.alloc (.cells #[.int .i64 kind, .int .i64 1, .string key, .string ⟨#[]⟩, .string ⟨#[]⟩, .int .i64 id, .slice none 0 0] 63)) (fun _ _ => 0)
  case atStart => exact ⟨rfl, rfl⟩
  case round =>
    obtain ⟨rfl, rfl⟩ := hrel
    go_wp2_with fail
    go_ret
    exact ⟨rfl, B1.out⟩
#print axioms out0_calls
def OutC (s : Nat) (l : Int) (F : Asr) (w : World) (e : Ending) (w' : World) : Prop := e = .returned (.int .i64 0) ∧ Holds w' (stA s none l * F) ∧ Sm w w'
set_option maxHeartbeats 8000000 in
theorem out1_calls (s g : Nat) (kind : Int) (key p : ByteArray) (id z l : Int) (gc : Nat) (hp : p = ⟨#[]⟩ ∨ p = ⟨#[47]⟩) (hz : okZ z) (F : Asr) (w : World) (hw : Holds w (stA s (some z) l * F)) (hg : w.cell? ⟨g, 0, none⟩ = some (.int .i64 z)) :
    Calls Try.prog 95 #[.pointer (some ⟨s, 0, none⟩), opV kind key id (some ⟨g, 0, none⟩) 1 gc, .string p] w (OutC s l F w) := by
  unfold opV
  have HZ := Lib.hid hz
  have HP := Lib.hid (hp_calls p hp)
  obtain ⟨ma, mh, h1⟩ := st_open hw
  simp only [Option.toList, List.map] at h1
  have hgl : g < w.heap.size := World.block_lt_of_cell? _ _ hg
  obtain ⟨W1, hW1⟩ : ∃ q, w.alloc (.cells #[.int .i64 kind, .int .i64 1, .string key, .string ⟨#[]⟩, .string ⟨#[]⟩, .int .i64 id, .slice (some ⟨g, 0, none⟩) 1 gc] 63) = q := ⟨_, rfl⟩
  have hb : Below w.heap.size w W1 := by rw [← hW1]; exact (Below.refl _ w).alloc (Nat.le_refl _) _
  have S1 := Lib.hid (Sm.of_below hb)
  have h2 := h1.grow hb
  obtain ⟨born, c, hbc, h3⟩ := mapA_one (h2.eqv (by ac_rfl : _ = mapA wE vE okZ mh [(z, ())] * (pts s (.cells #[.map (some ma), .map (some mh), .int .i64 l] 127 (0, 0)) * (mapA pE iE okU ma [((), z)] * F))))
  have hmap := h3.at
  have hs := (h3.eqv (star_left_comm _ _ _)).cell 1
  have hs0 := (h3.eqv (star_left_comm _ _ _)).cell 0
  have H2 := Lib.hid h2
  have hg1 : W1.cell? ⟨g, 0, none⟩ = some (.int .i64 z) := (hb.cell (p := ⟨g, 0, none⟩) hgl).trans hg
  have bc : ∀ j, W1.cell? ⟨w.heap.size, j, none⟩ = #[Value.int .i64 kind, .int .i64 1, .string key, .string ⟨#[]⟩, .string ⟨#[]⟩, .int .i64 id, .slice (some ⟨g, 0, none⟩) 1 gc][j]? := fun j => by
    rw [← hW1]; exact World.cell?_alloc_at _ _ _ j (by simp)
  have bc1 := bc 1
  have bc6 := bc 6
  simp at bc1 bc6 hs hs0
  have LK : ∀ wq : World, wq.heap[mh]? = some (.map #[⟨.agg #[.int .i64 1, .int .i64 z], .agg #[.int .i64 1, .string ⟨#[47, 107]⟩, .string ⟨#[]⟩, .string ⟨#[]⟩], born⟩] c) → (Instr.lookup 125 (.map (some mh)) (.agg #[.int .i64 1, .int .i64 z]) true).run Try.prog wq = .ok (.tuple #[.agg #[.int .i64 1, .string ⟨#[47, 107]⟩, .string ⟨#[]⟩, .string ⟨#[]⟩], .bool true]) wq := fun wq hq => look_one (k := z) ktW Try.underlying125 zV hz hq true
  change W1.heap[mh]? = some (.map #[⟨.agg #[.int .i64 1, .int .i64 z], .agg #[.int .i64 1, .string ⟨#[47, 107]⟩, .string ⟨#[]⟩, .string ⟨#[]⟩], born⟩] c) at hmap
  have hml : mh < W1.heap.size := (Array.getElem?_eq_some_iff.1 hmap).1
  have hsl : s < W1.heap.size := World.block_lt_of_cell? _ _ hs
  have hbl : w.heap.size < W1.heap.size := World.block_lt_of_cell? _ _ bc1
  clear hw h1 h2 h3 hb bc hz hp hg
  go_enter Try.func95, Try.ntmps95
  go_wp2_with fail
  go_loopw [14] (fun x wl => (x = .int .i64 0 ∧ wl = W1) ∨ (x = .int .i64 1 ∧ Hid (Holds wl (stA s none l * F)) ∧ Hid (Sm w wl))) (fun x _ => 1 - (intOf x).toNat)
  case atStart => exact .inl ⟨rfl, rfl⟩
  case round =>
    rcases hrel with ⟨rfl, rfl⟩ | ⟨rfl, HH, HS⟩
    · have XH : ∀ o : Obj, (wr.alloc o).drew.heap[mh]? = some (.map #[⟨.agg #[.int .i64 1, .int .i64 z], .agg #[.int .i64 1, .string ⟨#[47, 107]⟩, .string ⟨#[]⟩, .string ⟨#[]⟩], born⟩] c) := fun o => ((Below.refl _ wr).alloc (Nat.le_refl _) o).block mh hml |>.trans hmap
      go_wp2_with fail
      go_region_held3 (fun w' => w'.cell? ⟨s, 1, none⟩ = some (.map (some mh)) ∧ w'.cell? ⟨w.heap.size, 1, none⟩ = some (.int .i64 1) ∧ w'.heap[mh]? = some (.map #[⟨.agg #[.int .i64 1, .int .i64 z], .agg #[.int .i64 1, .string ⟨#[47, 107]⟩, .string ⟨#[]⟩, .string ⟨#[]⟩], born⟩] c)) (first | exact ⟨hs, bc1, hmap⟩ | exact XH _ | go_keep) (first | fail)
      all_goals
        have H3 : Hid (Holds (wr.alloc (.cells #[.int .i64 1, .string ⟨#[47, 107]⟩, .string ⟨#[]⟩, .string ⟨#[]⟩] 162)).drew (pts wr.heap.size (.cells #[.int .i64 1, .string ⟨#[47, 107]⟩, .string ⟨#[]⟩, .string ⟨#[]⟩] 162 (0, 0)) * (pts s (.cells #[.map (some ma), .map (some mh), .int .i64 l] 127 (0, 0)) * (mapA pE iE okU ma [((), z)] * (mapA wE vE okZ mh [(z, ())] * F))))) := H2.out.alloc _
        have S3 : Hid (Sm w (wr.alloc (.cells #[.int .i64 1, .string ⟨#[47, 107]⟩, .string ⟨#[]⟩, .string ⟨#[]⟩] 162)).drew) := (S1.out.alloc _).drew
        have B3 : Hid (Below wr.heap.size wr (wr.alloc (.cells #[.int .i64 1, .string ⟨#[47, 107]⟩, .string ⟨#[]⟩, .string ⟨#[]⟩] 162)).drew) := ((Below.refl _ wr).alloc (Nat.le_refl _) _).drew
        obtain ⟨v, hv⟩ : ∃ q, wr.heap.size = q := ⟨_, rfl⟩
        obtain ⟨W2, hW2⟩ : ∃ q, (wr.alloc (.cells #[.int .i64 1, .string ⟨#[47, 107]⟩, .string ⟨#[]⟩, .string ⟨#[]⟩] 162)).drew = q := ⟨_, rfl⟩
        rw [hv] at H3
        rw [hW2] at H3 S3 B3
        rw [hv, hW2]
        have v1 := H3.out.cell 1
        have CL := Lib.hid (HP.out W2)
        simp at v1
        have bc2 : W2.cell? ⟨w.heap.size, 1, none⟩ = some (.int .i64 1) := (B3.out.cell (p := ⟨w.heap.size, 1, none⟩) hbl).trans bc1
        have BC2 := Lib.hid bc2
        clear H2 S1 HP XH hmap hs hs0 bc1 bc6 LK hg1 hW1 hv hW2 B3 bc2
        go_wp2_with fail
        refine (CL.out).mono ?_
        rintro e w3 ⟨rfl, b3⟩
        have h4 := H3.out.grow b3
        have q1 := (h4.eqv (star_left_comm _ _ _)).cell 1
        have bc3 : w3.drew.cell? ⟨w.heap.size, 1, none⟩ = some (.int .i64 1) := (b3.cell (p := ⟨w.heap.size, 1, none⟩) (World.block_lt_of_cell? _ _ BC2.out)).trans BC2.out
        simp at q1
        have HD : Hid (Holds w3.drew (mapA wE vE okZ mh [(z, ())] * (pts v (.cells #[.int .i64 1, .string ⟨#[47, 107]⟩, .string ⟨#[]⟩, .string ⟨#[]⟩] 162 (0, 0)) * (pts s (.cells #[.map (some ma), .map (some mh), .int .i64 l] 127 (0, 0)) * (mapA pE iE okU ma [((), z)] * F))))) := (h4.drewN 1).eqv (by ac_rfl)
        have S4 : Hid (Sm w w3.drew) := (S3.out.trans (Sm.of_below b3)).drew
        clear b3 h4 CL H3 S3 v1
        go_wp2_with fail
        go_still_tail 8, (by kernel_rfl)
        go_wp2_with (refine wpList_delete_sep (w := w3.drew) rfl _ _ rfl ktW Try.underlying125 HD.out z HZ.out rfl rfl ?_)
        intro w4 h5 s5
        have e5 : delK [(z, ())] z = ([] : List (Int × Unit)) := by simp [delK]
        rw [e5] at h5
        have q2 := (h5.eqv (by ac_rfl : _ = pts v (.cells #[.int .i64 1, .string ⟨#[47, 107]⟩, .string ⟨#[]⟩, .string ⟨#[]⟩] 162 (0, 0)) * (pts s (.cells #[.map (some ma), .map (some mh), .int .i64 l] 127 (0, 0)) * (mapA wE vE okZ mh [] * (mapA pE iE okU ma [((), z)] * F)))))
        have v0 := q2.cell 0
        have v1 := q2.cell 1
        have v2 := q2.cell 2
        have q3 := (q2.eqv (star_left_comm _ _ _)).cell 0
        simp at v0 v1 v2 q3
        have HE : Hid (Holds w4.drew (mapA pE iE okU ma [((), z)] * (pts s (.cells #[.map (some ma), .map (some mh), .int .i64 l] 127 (0, 0)) * (mapA wE vE okZ mh [] * (pts v (.cells #[.int .i64 1, .string ⟨#[47, 107]⟩, .string ⟨#[]⟩, .string ⟨#[]⟩] 162 (0, 0)) * F))))) := (q2.drewN 1).eqv (by ac_rfl)
        have S5 : Hid (Sm w w4.drew) := (S4.out.trans s5).drew
        clear HD S4 h5 s5 e5 q2 q1 bc3
        go_wp2_with fail
        go_still_tail 6, (by kernel_rfl)
        go_wp2_with (refine wpList_delete_sep (w := w4.drew) rfl _ _ rfl ktP Try.underlying124 HE.out () trivial rfl rfl ?_)
        intro w5 h6 s6
        have e6 : delK [((), z)] () = ([] : List (Unit × Int)) := by simp [delK]
        rw [e6] at h6
        have HF : Hid (Holds w5 (stA s none l * F)) := st_shut (ma := ma) (mh := mh) (x := none) ((h6.eqv (by simp only [Option.toList, List.map]; ac_rfl : _ = pts v (.cells #[.int .i64 1, .string ⟨#[47, 107]⟩, .string ⟨#[]⟩, .string ⟨#[]⟩] 162 (0, 0)) * (pts s (.cells #[.map (some ma), .map (some mh), .int .i64 l] 127 (0, 0)) * (mapA pE iE okU ma ((none : Option Int).toList.map fun i => ((), i)) * (mapA wE vE okZ mh ((none : Option Int).toList.map fun i => (i, ())) * F))))).right)
        have S6 : Hid (Sm w w5) := S5.out.trans s6
        clear HE S5 h6 s6 e6 v0 v1 v2 q3
        go_wp2_with fail
        go_roundw
        case rel => exact .inr ⟨by go_num, HF.out, S6.out⟩
        case measure => simp [intOf]
    · go_wp2_with fail
      go_ret
      exact ⟨rfl, HH.out, HS.out⟩
end Go.Proofs.Ytefcinifaaablaa.Ord
