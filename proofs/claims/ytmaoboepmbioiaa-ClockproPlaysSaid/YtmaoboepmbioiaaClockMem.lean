/-
  Layer 19: the rings in memory, and what put and take do to them.
-/
import Derived.Test.YtmaoboepmbioiaaRows
import Derived.Test.YtmaoboepmbioiaaMaps
import Derived.Test.YtmaoboepmbioiaaClockAbs
import Derived.Deep.QuietTactic
import Derived.BigQuiet
import Derived.RegionTactic
import Derived.LoopTactic
import Derived.OwnWalk
import Derived.Outline
namespace Go.Proofs.Ytmaoboepmbioiaa.Clock
open Go.RowKit Go.Sep
set_option maxRecDepth 100000
set_option linter.unusedVariables false
set_option linter.unusedSimpArgs false

structure Nd where
  id : Int
  kind : Int
  mark : Bool
  nxt : Option Nat
  lst : Option Nat
def pa (b : Nat) : Value := .pointer (some ⟨b, 0, none⟩)
def pt (o : Option Nat) : Value := .pointer (o.map fun b => ⟨b, 0, none⟩)
def Nd.cs (d : Nd) : Array Value := #[.int .i64 d.id, .int .i64 d.kind, .bool d.mark, pt d.nxt, pt d.lst]
def ndA (f : Nat → Nd) (b : Nat) : Asr := pts b (.cells (f b).cs 162 (0, 0))
def nodesA (f : Nat → Nd) (bs : List Nat) : Asr := big (ndA f) bs
def ringA (r : Nat) (l : List Nat) : Asr := pts r (.cells #[pt l.head?, .int .i64 (l.length : Int)] 155 (0, 0))
def up (f : Nat → Nd) (b : Nat) (d : Nd) : Nat → Nd := fun k => if k = b then d else f k

theorem up_same (f : Nat → Nd) (b : Nat) (d : Nd) : up f b d b = d := by simp [up]
theorem up_other (f : Nat → Nd) {b k : Nat} (d : Nd) (h : k ≠ b) : up f b d k = f k := by simp [up, h]

theorem nodes_at {bs : List Nat} {b : Nat} (hb : b ∈ bs) (hn : bs.Nodup) : ∃ X, ∀ f f' : Nat → Nd, (∀ k, k ≠ b → f' k = f k) → nodesA f' bs = ndA f' b * nodesA f X ∧ nodesA f bs = ndA f b * nodesA f X := by
  obtain ⟨i, hi, rfl⟩ := List.getElem_of_mem hb
  refine ⟨bs.eraseIdx i, fun f f' h => ?_⟩
  unfold nodesA
  rw [big_at (ndA f') bs i hi, big_at (ndA f) bs i hi]
  have : big (ndA f') (bs.eraseIdx i) = big (ndA f) (bs.eraseIdx i) := by
    refine big_congr fun k hk => ?_
    have hne : k ≠ bs[i] := by
      intro e
      obtain ⟨j, hj, hjk⟩ := List.mem_eraseIdx_iff_getElem?.1 hk
      have hi' : bs[i]? = some bs[i] := List.getElem?_eq_getElem hi
      rw [e] at hjk
      exact hj ((List.getElem?_inj hi hn).1 (by rw [hi', hjk])).symm
    unfold ndA; rw [h k hne]
  exact ⟨by rw [this], rfl⟩
theorem nodes_store {w : World} {f : Nat → Nd} {bs : List Nat} {F : Asr} {b : Nat} (h : Holds w (nodesA f bs * F)) (hb : b ∈ bs) (hn : bs.Nodup) (j : Nat) (v : Value) (d : Nd) (hd : (f b).cs.setIfInBounds j v = d.cs) :
    Holds (w.setCell ⟨b, j, none⟩ v) (nodesA (up f b d) bs * F) := by
  obtain ⟨X, hX⟩ := nodes_at hb hn
  obtain ⟨e1, e2⟩ := hX f (up f b d) fun k hk => up_other f d hk
  rw [e2, star_assoc] at h
  rw [e1, star_assoc]
  have := Holds.store h j v
  rw [hd] at this
  unfold ndA
  rw [up_same]
  exact this
theorem nodes_cell {w : World} {f : Nat → Nd} {bs : List Nat} {F : Asr} {b : Nat} (h : Holds w (nodesA f bs * F)) (hb : b ∈ bs) (hn : bs.Nodup) (j : Nat) : w.cell? ⟨b, j, none⟩ = (f b).cs[j]? := by
  obtain ⟨X, hX⟩ := nodes_at hb hn
  obtain ⟨-, e2⟩ := hX f f fun k hk => rfl
  rw [e2, star_assoc] at h
  exact Holds.cell h j
theorem nodes_frozen {w : World} {f : Nat → Nd} {bs : List Nat} {F : Asr} {b : Nat} (h : Holds w (nodesA f bs * F)) (hb : b ∈ bs) (hn : bs.Nodup) (j : Nat) : w.frozen? ⟨b, j, none⟩ = false := by
  obtain ⟨X, hX⟩ := nodes_at hb hn
  obtain ⟨-, e2⟩ := hX f f fun k hk => rfl
  rw [e2, star_assoc] at h
  exact Holds.frozen h j
theorem nodes_lt {w : World} {f : Nat → Nd} {bs : List Nat} {F : Asr} {b : Nat} (h : Holds w (nodesA f bs * F)) (hb : b ∈ bs) (hn : bs.Nodup) : b < w.heap.size := by
  obtain ⟨X, hX⟩ := nodes_at hb hn
  obtain ⟨-, e2⟩ := hX f f fun k hk => rfl
  rw [e2, star_assoc] at h
  exact Holds.lt h

/-! ### Rings, without memory -/
def Lk (f : Nat → Nd) : List Nat → Prop
  | a :: b :: l => (f a).nxt = some b ∧ (f b).lst = some a ∧ Lk f (b :: l)
  | _ => True
def Rg (f : Nat → Nd) : List Nat → Prop
  | [] => True
  | x :: l => Lk f (x :: l ++ [x])

theorem lk_append (f : Nat → Nd) (l : List Nat) (m : Nat) (k : List Nat) : Lk f (l ++ m :: k) ↔ Lk f (l ++ [m]) ∧ Lk f (m :: k) := by
  induction l with
  | nil => simp [Lk]
  | cons a l ih =>
    cases l with
    | nil => simp [Lk, and_assoc]
    | cons b l => simp only [List.cons_append, Lk] at ih ⊢; rw [ih]; simp [and_assoc]
theorem lk_congr {f f' : Nat → Nd} {l : List Nat} (h1 : ∀ a ∈ l.dropLast, (f' a).nxt = (f a).nxt) (h2 : ∀ b ∈ l.tail, (f' b).lst = (f b).lst) (h : Lk f l) : Lk f' l := by
  induction l with
  | nil => trivial
  | cons a l ih =>
    cases l with
    | nil => trivial
    | cons b l =>
      obtain ⟨k1, k2, k3⟩ := h
      refine ⟨?_, ?_, ih (fun x hx => h1 x (by simp [List.dropLast, hx])) (fun x hx => h2 x (by simp at hx ⊢; exact .inr hx)) k3⟩
      · rw [h1 a (by simp [List.dropLast]), k1]
      · rw [h2 b (by simp), k2]
theorem rg_congr {f f' : Nat → Nd} {l : List Nat} (h : ∀ b ∈ l, (f' b).nxt = (f b).nxt ∧ (f' b).lst = (f b).lst) (hr : Rg f l) : Rg f' l := by
  cases l with
  | nil => trivial
  | cons x l =>
    refine lk_congr (fun a ha => (h a ?_).1) (fun b hb => (h b ?_).2) hr
    · rw [List.dropLast_concat] at ha; exact ha
    · simp only [List.cons_append, List.tail_cons, List.mem_append, List.mem_singleton] at hb
      rcases hb with hb | rfl <;> simp [*]
theorem rg_rotate (f : Nat → Nd) (A B : List Nat) : Rg f (A ++ B) ↔ Rg f (B ++ A) := by
  cases A with
  | nil => simp
  | cons a A =>
    cases B with
    | nil => simp
    | cons b B =>
      have e1 : Rg f (a :: A ++ b :: B) ↔ Lk f (a :: A ++ [b]) ∧ Lk f (b :: B ++ [a]) := by
        show Lk f (a :: (A ++ b :: B) ++ [a]) ↔ _
        have := lk_append f (a :: A) b (B ++ [a])
        simpa using this
      have e2 : Rg f (b :: B ++ a :: A) ↔ Lk f (b :: B ++ [a]) ∧ Lk f (a :: A ++ [b]) := by
        show Lk f (b :: (B ++ a :: A) ++ [b]) ↔ _
        have := lk_append f (b :: B) a (A ++ [b])
        simpa using this
      rw [e1, e2, and_comm]
theorem rg_last {f : Nat → Nd} {A : List Nat} {x z : Nat} {t : List Nat} (he : x :: t = A ++ [z]) (h : Rg f (x :: t)) : Lk f (A ++ [z]) ∧ (f z).nxt = some x ∧ (f x).lst = some z := by
  have h' : Lk f (x :: t ++ [x]) := h
  rw [he, List.append_assoc] at h'
  have := (lk_append f A z [x]).1 h'
  exact ⟨this.1, this.2.1, this.2.2.1⟩
theorem ring_put {f f' : Nat → Nd} {x p z : Nat} {t A : List Nat} (he : x :: t = A ++ [z]) (hn : (x :: t).Nodup) (hp : p ∉ x :: t) (h : Rg f (x :: t))
    (h1 : (f' p).nxt = some x) (h2 : (f' p).lst = some z) (h3 : (f' z).nxt = some p) (h4 : (f' x).lst = some p)
    (hN : ∀ b, b ≠ z → b ≠ p → (f' b).nxt = (f b).nxt) (hL : ∀ b, b ≠ x → b ≠ p → (f' b).lst = (f b).lst) : Rg f' (x :: t ++ [p]) := by
  obtain ⟨k1, k2, k3⟩ := rg_last he h
  show Lk f' (x :: (t ++ [p]) ++ [x])
  have e : x :: (t ++ [p]) ++ [x] = A ++ z :: [p, x] := by
    rw [← List.cons_append, he]; simp
  rw [e, lk_append]
  refine ⟨lk_congr (fun a ha => hN a ?_ ?_) (fun b hb => hL b ?_ ?_) k1, h3, h2, h1, h4, trivial⟩
  · rw [List.dropLast_concat] at ha
    rintro rfl
    rw [he] at hn
    exact (List.nodup_append.1 hn).2.2 a ha a (by simp) rfl
  · rw [List.dropLast_concat] at ha
    rintro rfl
    exact hp (by rw [he]; simp [ha])
  · rintro rfl
    rw [← he] at hb
    exact (List.nodup_cons.1 hn).1 hb
  · rintro rfl
    rw [← he] at hb
    exact hp (List.mem_cons_of_mem _ hb)
theorem ring_take {f f' : Nat → Nd} {p y z : Nat} {A B : List Nat} (hn : (A ++ p :: B).Nodup) (hne : A ++ B ≠ []) (h : Rg f (A ++ p :: B)) (hy : (f p).nxt = some y) (hz : (f p).lst = some z)
    (h1 : (f' z).nxt = some y) (h2 : (f' y).lst = some z) (hN : ∀ b, b ≠ z → (f' b).nxt = (f b).nxt) (hL : ∀ b, b ≠ y → (f' b).lst = (f b).lst) : Rg f' (A ++ B) := by
  rw [rg_rotate] at h ⊢
  have hn' : (p :: (B ++ A)).Nodup := (List.perm_append_comm.nodup_iff).1 hn
  have h : Rg f (p :: (B ++ A)) := h
  have hne' : B ++ A ≠ [] := by
    intro e; apply hne
    have := List.append_eq_nil_iff.1 e
    simp [this]
  generalize B ++ A = C at *
  obtain ⟨D, z', hD⟩ : ∃ D z', C = D ++ [z'] := ⟨C.dropLast, C.getLast hne', (List.dropLast_concat_getLast hne').symm⟩
  obtain ⟨k1, k2, k3⟩ := rg_last (f := f) (A := p :: D) (z := z') (by rw [hD]; rfl) h
  rw [k3] at hz
  obtain rfl := Option.some.inj hz
  cases C with
  | nil => simp at hne'
  | cons y' C' =>
    have hk : Lk f (p :: y' :: C') := by rw [hD]; exact k1
    obtain ⟨q1, q2, q3⟩ := hk
    rw [q1] at hy
    obtain rfl := Option.some.inj hy
    show Lk f' (y' :: C' ++ [y'])
    rw [hD, List.append_assoc]
    refine (lk_append f' D z' [y']).2 ⟨lk_congr (fun a ha => hN a ?_) (fun b hb => hL b ?_) (hD ▸ q3), h1, h2, trivial⟩
    · rw [List.dropLast_concat] at ha
      rintro rfl
      have := (List.nodup_cons.1 hn').2
      rw [hD] at this
      exact (List.nodup_append.1 this).2.2 a ha a (by simp) rfl
    · rintro rfl
      rw [← hD] at hb
      exact (List.nodup_cons.1 (List.nodup_cons.1 hn').2).1 hb

/-- what stays of the nodes -/
def Kept (f f' : Nat → Nd) (S : List Nat) : Prop := ∀ b, (f' b).id = (f b).id ∧ (f' b).kind = (f b).kind ∧ (f' b).mark = (f b).mark ∧ (b ∉ S → f' b = f b)
def Put (r : Nat) (f : Nat → Nd) (bs l l' S : List Nat) (F : Asr) (w : World) (e : Ending) (w' : World) : Prop :=
  e = .returned (.tuple #[]) ∧ ∃ f', Rg f' l' ∧ Kept f f' S ∧ Holds w' (ringA r l' * (nodesA f' bs * F)) ∧ Sm w w'

theorem kept_refl (f : Nat → Nd) (S : List Nat) : Kept f f S := fun b => ⟨rfl, rfl, rfl, fun _ => rfl⟩
def setN (f : Nat → Nd) (b : Nat) (v : Option Nat) : Nat → Nd := up f b { f b with nxt := v }
def setP (f : Nat → Nd) (b : Nat) (v : Option Nat) : Nat → Nd := up f b { f b with lst := v }
theorem kept_setN {f g : Nat → Nd} {S : List Nat} (h : Kept f g S) {b : Nat} (hb : b ∈ S) (v : Option Nat) : Kept f (setN g b v) S := by
  intro k
  unfold setN up
  split
  · rename_i e; subst e; exact ⟨(h k).1, (h k).2.1, (h k).2.2.1, fun hk => absurd hb hk⟩
  · exact h k
theorem kept_setP {f g : Nat → Nd} {S : List Nat} (h : Kept f g S) {b : Nat} (hb : b ∈ S) (v : Option Nat) : Kept f (setP g b v) S := by
  intro k
  unfold setP up
  split
  · rename_i e; subst e; exact ⟨(h k).1, (h k).2.1, (h k).2.2.1, fun hk => absurd hb hk⟩
  · exact h k
theorem nodes_nxt {w : World} {f : Nat → Nd} {bs : List Nat} {F : Asr} {b : Nat} (h : Holds w (nodesA f bs * F)) (hb : b ∈ bs) (hn : bs.Nodup) (v : Option Nat) : Holds (w.setCell ⟨b, 3, none⟩ (pt v)) (nodesA (setN f b v) bs * F) := nodes_store h hb hn 3 _ _ rfl
theorem nodes_lst {w : World} {f : Nat → Nd} {bs : List Nat} {F : Asr} {b : Nat} (h : Holds w (nodesA f bs * F)) (hb : b ∈ bs) (hn : bs.Nodup) (v : Option Nat) : Holds (w.setCell ⟨b, 4, none⟩ (pt v)) (nodesA (setP f b v) bs * F) := nodes_store h hb hn 4 _ _ rfl
theorem ring_count {w : World} {r : Nat} {l : List Nat} {F : Asr} (h : Holds w (ringA r l * F)) (n : Int) : Holds (w.setCell ⟨r, 1, none⟩ (.int .i64 n)) (pts r (.cells #[pt l.head?, .int .i64 n] 155 (0, 0)) * F) := Holds.store h 1 _

set_option maxHeartbeats 2000000 in
theorem put_calls (r p : Nat) (f : Nat → Nd) (bs l : List Nat) (F : Asr) (w : World) (hn : bs.Nodup) (hp : p ∈ bs) (hl : ∀ b ∈ l, b ∈ bs) (hpl : p ∉ l) (hln : l.Nodup) (hrg : Rg f l) (hsz : l.length ≤ 10000)
    (hw : Holds w (ringA r l * (nodesA f bs * F))) :
    Calls Try.prog 111 #[pa r, pa p] w (Put r f bs l (l ++ [p]) (p :: l) F w) := by
  have r0 := hw.cell 0
  have r1 := hw.cell 1
  have rf := hw.frozen
  have rf0 := rf 0
  have rf1 := rf 1
  have rl := hw.lt
  have hw2 := hw.eqv (star_left_comm _ _ _)
  have p3 := nodes_cell hw2 hp hn 3
  have p4 := nodes_cell hw2 hp hn 4
  have pf3 := nodes_frozen hw2 hp hn 3
  have pf4 := nodes_frozen hw2 hp hn 4
  have pl := nodes_lt hw2 hp hn
  simp only [Nd.cs] at p3 p4
  obtain ⟨n, hnl⟩ : ∃ n, l.length = n := ⟨_, rfl⟩
  rw [hnl] at r1 hsz
  have hb : (0 : Int) ≤ (n : Int) := by omega
  have hb2 : (n : Int) ≤ 10000 := by omega
  have hs1 := (ring_count hw ((n : Int) + 1)).eqv (star_left_comm _ _ _)
  have hne : r ≠ p := by
    intro e
    obtain ⟨X, hX⟩ := nodes_at hp hn
    obtain ⟨-, e2⟩ := hX f f fun k hk => rfl
    rw [e2, star_assoc] at hw
    exact Holds.ne hw e
  unfold pa
  cases l with
  | nil =>
    have hs4 := Holds.store ((nodes_lst (nodes_nxt hs1 hp hn (some p)) hp hn (some p)).eqv (star_left_comm _ _ _)) 0 (pa p)
    have H4 := Lib.hid hs4
    have HN := Lib.hid hnl
    clear hs1 hs4 hw hw2 rf hrg hln hn hl hnl hpl hp
    simp only [List.head?_nil, pt, Option.map_none] at r0
    go_enter Try.func111, Try.ntmps111
    go_wp2_with fail
    go_end0
    refine ⟨rfl, setP (setN f p (some p)) p (some p), ?_, kept_setP (kept_setN (kept_refl _ _) (by simp) _) (by simp) _, H4.out.eqv ?_, ((((Sm.refl w).setCell _ _).setCell _ _).setCell _ _).setCell _ _⟩
    · exact ⟨by simp [setN, setP, up], by simp [setN, setP, up], trivial⟩
    · unfold ringA
      rw [← HN.out]; rfl
  | cons x t =>
    obtain ⟨A, z, hA⟩ : ∃ A z, x :: t = A ++ [z] := ⟨(x :: t).dropLast, (x :: t).getLast (by simp), (List.dropLast_concat_getLast (by simp)).symm⟩
    obtain ⟨k1, k2, k3⟩ := rg_last hA hrg
    have hxm : x ∈ bs := hl x (by simp)
    have hzl : z ∈ x :: t := by rw [hA]; simp
    have hzm : z ∈ bs := hl z hzl
    have hpx : p ≠ x := by rintro rfl; exact hpl (by simp)
    have hpz : p ≠ z := by rintro rfl; exact hpl hzl
    have x4 := nodes_cell hw2 hxm hn 4
    have xf4 := nodes_frozen hw2 hxm hn 4
    have zf3 := nodes_frozen hw2 hzm hn 3
    have z3 := nodes_cell hw2 hzm hn 3
    simp only [Nd.cs] at z3
    have xl := nodes_lt hw2 hxm hn
    have zl := nodes_lt hw2 hzm hn
    simp only [Nd.cs] at x4
    simp [pt, k3] at x4
    have hs5 := nodes_lst (nodes_nxt (nodes_lst (nodes_nxt hs1 hp hn (some x)) hp hn (some z)) hzm hn (some p)) hxm hn (some p)
    have RG := Lib.hid (ring_put (f' := setP (setN (setP (setN f p (some x)) p (some z)) z (some p)) x (some p)) hA hln hpl hrg (by simp [setN, setP, up, hpx, hpz]) (by simp [setN, setP, up, hpx, hpz]) (by simp only [setN, setP, up]; split <;> simp_all)
      (by simp [setN, setP, up]) (fun b h1 h2 => by simp only [setN, setP, up]; repeat' split
                                                    all_goals simp_all) (fun b h1 h2 => by simp only [setN, setP, up]; repeat' split
                                                                                           all_goals simp_all))
    have KP := Lib.hid (kept_setP (kept_setN (kept_setP (kept_setN (kept_refl f (p :: x :: t)) (b := p) (by simp) (some x)) (b := p) (by simp) (some z)) (b := z) (List.mem_cons_of_mem _ hzl) (some p)) (b := x) (by simp) (some p))
    have H5 := Lib.hid (hs5.eqv (star_left_comm _ _ _))
    have HN := Lib.hid hnl
    simp only [List.head?_cons, pt, Option.map_some] at r0
    clear hs1 hw hw2 rf hrg hln hn hl hnl hpl hp hs5 k1 k2 k3 hA hxm hzm hzl
    go_enter Try.func111, Try.ntmps111
    go_wp2_with fail
    go_region
    go_wp2_with fail
    go_region
    all_goals
      go_end0
      refine ⟨rfl, _, RG.out, KP.out, ?_, ?_⟩
      · exact H5.out.eqv (by unfold ringA; rw [← HN.out]; simp)
      · exact ((((((Sm.refl w).setCell _ _).setCell _ _).setCell _ _).setCell _ _).setCell _ _).drewN 2
#print axioms put_calls

end Go.Proofs.Ytmaoboepmbioiaa.Clock
