/-
  CacheNobody: the calls of a cache that no call made, and the walk.
-/
import Derived.Test.YtmniedeibafebaaGreatDoorRows
import Derived.Test.YtmniedeibafebaaGreatDoorMem
import Derived.Deep.QuietTactic
import Derived.BigQuiet
import Derived.RegionTactic
import Derived.LoopTactic
import Derived.OwnWalk
import Derived.Outline
import Derived.WalkSpells
import Derived.Deep.MidRow
import Derived.Deep.WholeRow
import Derived.Laws.Rows
namespace Go.Proofs.YtmniedeibafebaaGreatDoor.CacheN
open Go.RowKit Go.Sep
set_option maxRecDepth 100000
set_option linter.unusedVariables false
set_option linter.unusedSimpArgs false
def Nobody (w : World) (p : Option Addr) : Prop := p = none ∨ ∃ a, p = some ⟨a, 0, none⟩ ∧ w.cell? ⟨a, 4, none⟩ = some (.map none) ∧ a < w.heap.size
def meta0 : Value := .agg #[.int .i64 0, .bool false, .bool false, .bool false, .bool false, .bool false, .bool false, .bool false, .int .i64 0, .int .i64 0, .int .i64 0, .int .i64 0, .int .i64 0, .int .i64 0, .int .i64 0, .int .i64 0, .int .i64 0, .int .i64 0, .int .i64 0, .int .i64 0, .string ⟨#[]⟩]
theorem wpList_store_new {P : Program} {ops : Array Oper} {rest : List Oper} {op : Oper} {a : Act} {w : World} {Q : Exit → Act → World → Prop} (ty : TypeId) (c cells : Array Value) (hi : (P.info? ty).map (·.size) = some cells.size) (hc : c.size = cells.size) (h1 : cells.all (·.oneCell') = true) (hgd : op.guard = none) (x y : Operand) (ho : op.op = .store ty x y)
    (hx : a.eval x = .pointer (some ⟨w.heap.size, 0, none⟩)) (hy : a.eval y = .agg cells)
    (h : wpList P ops Q rest (a.put op.dst undef) (w.alloc (.cells cells ty))) : wpList P ops Q (op :: rest) a (w.alloc (.cells c ty)) :=
  wpList_plain hgd fun _ hK => by
    unfold Oper.wp execOp
    simp only [ho, hx, hy, Instr.storeAt, Instr.sureAddr, Sem.run_bind, Sem.run_pure, Result.andThen_ok, run_storeVar_new w ty c cells hi hc h1]
    exact hK _ _ h
theorem results_cell_row3 {P : Program} {fn : Func} {p t1 t2 t3 : Tmp} {ty : TypeId} (h : fn.results = #[.cell p ty, .tmp t1, .tmp t2, .tmp t3]) (tmps : Array Value) (w : World) (g : Nat) (t : TypeId) (cs : Array Value) (fr : Nat × Nat) (d : TypeDesc)
    (hp : tmps.getD p undef = .pointer (some ⟨g, 0, none⟩)) (hg : w.heap[g]? = some (.cells cs t fr))
    (hu : P.underlying ty = some d) (hd : (match d with | .struct _ | .array _ _ => true | _ => false) = true) (hi : (P.info? ty).map (·.size) = some cs.size) :
    (results fn tmps).run P w = .ok (.tuple #[.agg cs, tmps.getD t1 undef, tmps.getD t2 undef, tmps.getD t3 undef]) w := by
  have hp' : tmps[p]?.getD undef = .pointer (some ⟨g, 0, none⟩) := by simpa using hp
  simp [results, h, hp', asAddr, run_loadVar_row w g t ty cs fr d hg hu hd hi]
theorem wpList_load_guarded {P : Program} {ops : Array Oper} {rest : List Oper} {op : Oper} {a : Act} {w : World} {Q : Exit → Act → World → Prop} (ty : TypeId) (x : Operand) (ho : op.op = .load ty x) (hw : Region.wanted op (yielded ops a.tmps) = true)
    (b o : Nat) (hx : a.eval x = .pointer (some ⟨b, o, none⟩)) (cs : List Value) (d : TypeDesc) (hc : w.rangeAt b o cs)
    (hu : P.underlying ty = some d) (hd : d.isRow = true) (hi : (P.info? ty).map (·.size) = some cs.length)
    (h : wpList P ops Q rest (a.put op.dst (.agg cs.toArray)) w) : wpList P ops Q (op :: rest) a w :=
  wpList_step fun _ hK => by rw [if_pos hw]; exact wp_load_mid ty x ho b o hx cs d hc hu hd hi (hK _ _ h)
theorem size_meta : (Tryz.prog.info? 27).map (·.size) = some (#[.int .i64 0, .bool false, .bool false, .bool false, .bool false, .bool false, .bool false, .bool false, .int .i64 0, .int .i64 0, .int .i64 0, .int .i64 0, .int .i64 0, .int .i64 0, .int .i64 0, .int .i64 0, .int .i64 0, .int .i64 0, .int .i64 0, .int .i64 0, .string ⟨#[]⟩] : Array Value).size := by kernel_rfl
theorem one_meta : (#[.int .i64 0, .bool false, .bool false, .bool false, .bool false, .bool false, .bool false, .bool false, .int .i64 0, .int .i64 0, .int .i64 0, .int .i64 0, .int .i64 0, .int .i64 0, .int .i64 0, .int .i64 0, .int .i64 0, .int .i64 0, .int .i64 0, .int .i64 0, .string ⟨#[]⟩] : Array Value).all (·.oneCell') = true := by kernel_rfl
theorem Nobody.below {w w' : World} {p : Option Addr} (h : Nobody w p) (hb : Below w.heap.size w w') : Nobody w' p := by
  rcases h with rfl | ⟨a, rfl, h2, h3⟩
  · exact .inl rfl
  · exact .inr ⟨a, rfl, (hb.cell (p := ⟨a, 4, none⟩) h3).trans h2, by have := hb.size; omega⟩
theorem nb_none (p : Option Addr) (w : World) (h : Nobody w p) : Calls Tryz.prog 17 #[.pointer p] w fun e w' => e = .returned (.bool true) ∧ w' = w := by
  have hm := fun w => run_eql_map_nil (P := Tryz.prog) w 36 3 88 none Tryz.underlying36
  rcases h with rfl | ⟨a, rfl, h2, h3⟩
  all_goals
    go_enter Tryz.func17, Tryz.ntmps17
    go_wp2_with fail
    go_ret
    exact ⟨rfl, rfl⟩
theorem nb_Install (p : Option Addr) (c0 c1 c2 c3 c4 c5 c6 c7 c8 c9 c10 c11 c12 c13 c14 c15 c16 c17 c18 c19 c20 c21 c22 c23 c24 c25 c26 : Value) (w : World) (h : Nobody w p) : Calls Tryz.prog 5 #[.pointer p, .agg #[c0, c1, c2, c3, c4, c5, c6, c7, c8, c9, c10, c11, c12, c13, c14, c15, c16, c17, c18, c19, c20, c21, c22, c23, c24, c25, c26]] w fun e w' => e = .returned (.tuple #[.int .i64 0, .slice none 0 0, .int .i64 1]) ∧ Below w.heap.size w w' := by
  have NN : Hid (∀ wq, Below w.heap.size w wq → Calls Tryz.prog 17 #[.pointer p] wq fun e w' => e = .returned (.bool true) ∧ w' = wq) := fun wq hq => nb_none p wq (h.below hq)
  clear h
  go_enter Tryz.func5, Tryz.ntmps5
  go_wp2_with fail
  refine (NN.out _ (by first | exact Below.refl _ _ | exact (Below.refl _ _).drew | exact (Below.refl _ _).alloc (Nat.le_refl _) _ | exact ((Below.refl _ _).alloc (Nat.le_refl _) _).alloc (by simp) _ | exact (((Below.refl _ _).alloc (Nat.le_refl _) _).alloc (by simp) _).alloc (by simp) _)).mono ?_
  rintro e w1 ⟨rfl, rfl⟩
  go_wp2_with fail
  exact bodyPost_ret (v := (.tuple #[.int .i64 0, .slice none 0 0, .int .i64 1])) (by simp [results, Tryz.results5, go_sem, meta0]) rfl ⟨rfl, (by first | exact Below.refl _ _ | exact (Below.refl _ _).drew | exact (Below.refl _ _).alloc (Nat.le_refl _) _ | exact ((Below.refl _ _).alloc (Nat.le_refl _) _).alloc (by simp) _ | exact (((Below.refl _ _).alloc (Nat.le_refl _) _).alloc (by simp) _).alloc (by simp) _)⟩
theorem nb_Lookup (p : Option Addr) (c0 c1 c3 : Value) (w : World) (h : Nobody w p) : Calls Tryz.prog 6 #[.pointer p, c0, c1, c3] w fun e w' => e = .returned (.tuple #[.int .i64 0, .bool false]) ∧ Below w.heap.size w w' := by
  have NN : Hid (∀ wq, Below w.heap.size w wq → Calls Tryz.prog 17 #[.pointer p] wq fun e w' => e = .returned (.bool true) ∧ w' = wq) := fun wq hq => nb_none p wq (h.below hq)
  clear h
  go_enter Tryz.func6, Tryz.ntmps6
  go_wp2_with fail
  refine (NN.out _ (by first | exact Below.refl _ _ | exact (Below.refl _ _).drew | exact (Below.refl _ _).alloc (Nat.le_refl _) _ | exact ((Below.refl _ _).alloc (Nat.le_refl _) _).alloc (by simp) _ | exact (((Below.refl _ _).alloc (Nat.le_refl _) _).alloc (by simp) _).alloc (by simp) _)).mono ?_
  rintro e w1 ⟨rfl, rfl⟩
  go_wp2_with fail
  first | go_ret3 | go_ret2 | go_ret
  exact ⟨rfl, (by first | exact Below.refl _ _ | exact (Below.refl _ _).drew | exact (Below.refl _ _).alloc (Nat.le_refl _) _ | exact ((Below.refl _ _).alloc (Nat.le_refl _) _).alloc (by simp) _ | exact (((Below.refl _ _).alloc (Nat.le_refl _) _).alloc (by simp) _).alloc (by simp) _)⟩
theorem nb_Info (p : Option Addr) (w : World) (h : Nobody w p) : Calls Tryz.prog 7 #[.pointer p, .int .i64 1] w fun e w' => e = .returned (.tuple #[meta0, .slice none 0 0, .int .i64 0, .bool false]) ∧ Below w.heap.size w w' := by
  have NN : Hid (∀ wq, Below w.heap.size w wq → Calls Tryz.prog 17 #[.pointer p] wq fun e w' => e = .returned (.bool true) ∧ w' = wq) := fun wq hq => nb_none p wq (h.below hq)
  clear h
  go_enter Tryz.func7, Tryz.ntmps7
  go_wp2_with fail
  refine (NN.out _ (by first | exact Below.refl _ _ | exact (Below.refl _ _).drew | exact (Below.refl _ _).alloc (Nat.le_refl _) _ | exact ((Below.refl _ _).alloc (Nat.le_refl _) _).alloc (by simp) _ | exact (((Below.refl _ _).alloc (Nat.le_refl _) _).alloc (by simp) _).alloc (by simp) _)).mono ?_
  rintro e w1 ⟨rfl, rfl⟩
  go_wp2_with (refine wpList_store_new 27 #[.int .i64 0, .bool false, .bool false, .bool false, .bool false, .bool false, .bool false, .bool false, .int .i64 0, .int .i64 0, .int .i64 0, .int .i64 0, .int .i64 0, .int .i64 0, .int .i64 0, .int .i64 0, .int .i64 0, .int .i64 0, .int .i64 0, .int .i64 0, .string ⟨#[]⟩] #[.int .i64 0, .bool false, .bool false, .bool false, .bool false, .bool false, .bool false, .bool false, .int .i64 0, .int .i64 0, .int .i64 0, .int .i64 0, .int .i64 0, .int .i64 0, .int .i64 0, .int .i64 0, .int .i64 0, .int .i64 0, .int .i64 0, .int .i64 0, .string ⟨#[]⟩] size_meta rfl one_meta rfl _ _ rfl rfl rfl ?_)
  exact bodyPost_ret (results_cell_row3 rfl _ _ _ _ #[.int .i64 0, .bool false, .bool false, .bool false, .bool false, .bool false, .bool false, .bool false, .int .i64 0, .int .i64 0, .int .i64 0, .int .i64 0, .int .i64 0, .int .i64 0, .int .i64 0, .int .i64 0, .int .i64 0, .int .i64 0, .int .i64 0, .int .i64 0, .string ⟨#[]⟩] _ _ rfl (heap_alloc_new _ _) Tryz.underlying27 rfl size_meta) rfl ⟨rfl, (by first | exact Below.refl _ _ | exact (Below.refl _ _).drew | exact (Below.refl _ _).alloc (Nat.le_refl _) _ | exact ((Below.refl _ _).alloc (Nat.le_refl _) _).alloc (by simp) _ | exact (((Below.refl _ _).alloc (Nat.le_refl _) _).alloc (by simp) _).alloc (by simp) _)⟩
theorem nb_Read (p : Option Addr) (w : World) (h : Nobody w p) : Calls Tryz.prog 8 #[.pointer p, .int .i64 1, .int .i64 0, .int .i64 0] w fun e w' => e = .returned (.tuple #[.slice none 0 0, .int .i64 1]) ∧ Below w.heap.size w w' := by
  have NN : Hid (∀ wq, Below w.heap.size w wq → Calls Tryz.prog 17 #[.pointer p] wq fun e w' => e = .returned (.bool true) ∧ w' = wq) := fun wq hq => nb_none p wq (h.below hq)
  clear h
  go_enter Tryz.func8, Tryz.ntmps8
  go_wp2_with fail
  refine (NN.out _ (by first | exact Below.refl _ _ | exact (Below.refl _ _).drew | exact (Below.refl _ _).alloc (Nat.le_refl _) _ | exact ((Below.refl _ _).alloc (Nat.le_refl _) _).alloc (by simp) _ | exact (((Below.refl _ _).alloc (Nat.le_refl _) _).alloc (by simp) _).alloc (by simp) _)).mono ?_
  rintro e w1 ⟨rfl, rfl⟩
  go_wp2_with fail
  first | go_ret3 | go_ret2 | go_ret
  exact ⟨rfl, (by first | exact Below.refl _ _ | exact (Below.refl _ _).drew | exact (Below.refl _ _).alloc (Nat.le_refl _) _ | exact ((Below.refl _ _).alloc (Nat.le_refl _) _).alloc (by simp) _ | exact (((Below.refl _ _).alloc (Nat.le_refl _) _).alloc (by simp) _).alloc (by simp) _)⟩
theorem nb_Release (p : Option Addr) (w : World) (h : Nobody w p) : Calls Tryz.prog 9 #[.pointer p, .int .i64 1] w fun e w' => e = .returned (.int .i64 1) ∧ Below w.heap.size w w' := by
  have NN : Hid (∀ wq, Below w.heap.size w wq → Calls Tryz.prog 17 #[.pointer p] wq fun e w' => e = .returned (.bool true) ∧ w' = wq) := fun wq hq => nb_none p wq (h.below hq)
  clear h
  go_enter Tryz.func9, Tryz.ntmps9
  go_wp2_with fail
  refine (NN.out _ (by first | exact Below.refl _ _ | exact (Below.refl _ _).drew | exact (Below.refl _ _).alloc (Nat.le_refl _) _ | exact ((Below.refl _ _).alloc (Nat.le_refl _) _).alloc (by simp) _ | exact (((Below.refl _ _).alloc (Nat.le_refl _) _).alloc (by simp) _).alloc (by simp) _)).mono ?_
  rintro e w1 ⟨rfl, rfl⟩
  go_wp2_with fail
  first | go_ret3 | go_ret2 | go_ret
  exact ⟨rfl, (by first | exact Below.refl _ _ | exact (Below.refl _ _).drew | exact (Below.refl _ _).alloc (Nat.le_refl _) _ | exact ((Below.refl _ _).alloc (Nat.le_refl _) _).alloc (by simp) _ | exact (((Below.refl _ _).alloc (Nat.le_refl _) _).alloc (by simp) _).alloc (by simp) _)⟩
theorem nb_Refresh (p : Option Addr) (c4 c5 c6 c7 c8 c9 c10 c11 c12 c13 c14 c15 c16 c17 c18 c19 c20 c21 c22 c23 c24 : Value) (w : World) (h : Nobody w p) : Calls Tryz.prog 10 #[.pointer p, .int .i64 1, .agg #[c4, c5, c6, c7, c8, c9, c10, c11, c12, c13, c14, c15, c16, c17, c18, c19, c20, c21, c22, c23, c24], .slice none 0 0] w fun e w' => e = .returned (.int .i64 1) ∧ Below w.heap.size w w' := by
  have NN : Hid (∀ wq, Below w.heap.size w wq → Calls Tryz.prog 17 #[.pointer p] wq fun e w' => e = .returned (.bool true) ∧ w' = wq) := fun wq hq => nb_none p wq (h.below hq)
  clear h
  go_enter Tryz.func10, Tryz.ntmps10
  go_wp2_with fail
  refine (NN.out _ (by first | exact Below.refl _ _ | exact (Below.refl _ _).drew | exact (Below.refl _ _).alloc (Nat.le_refl _) _ | exact ((Below.refl _ _).alloc (Nat.le_refl _) _).alloc (by simp) _ | exact (((Below.refl _ _).alloc (Nat.le_refl _) _).alloc (by simp) _).alloc (by simp) _)).mono ?_
  rintro e w1 ⟨rfl, rfl⟩
  go_wp2_with fail
  first | go_ret3 | go_ret2 | go_ret
  exact ⟨rfl, (by first | exact Below.refl _ _ | exact (Below.refl _ _).drew | exact (Below.refl _ _).alloc (Nat.le_refl _) _ | exact ((Below.refl _ _).alloc (Nat.le_refl _) _).alloc (by simp) _ | exact (((Below.refl _ _).alloc (Nat.le_refl _) _).alloc (by simp) _).alloc (by simp) _)⟩
theorem nb_Purge (p : Option Addr) (w : World) (h : Nobody w p) : Calls Tryz.prog 11 #[.pointer p, .int .i64 0, .string ⟨#[]⟩] w fun e w' => e = .returned (.slice none 0 0) ∧ Below w.heap.size w w' := by
  have NN : Hid (∀ wq, Below w.heap.size w wq → Calls Tryz.prog 17 #[.pointer p] wq fun e w' => e = .returned (.bool true) ∧ w' = wq) := fun wq hq => nb_none p wq (h.below hq)
  clear h
  go_enter Tryz.func11, Tryz.ntmps11
  go_wp2_with fail
  refine (NN.out _ (by first | exact Below.refl _ _ | exact (Below.refl _ _).drew | exact (Below.refl _ _).alloc (Nat.le_refl _) _ | exact ((Below.refl _ _).alloc (Nat.le_refl _) _).alloc (by simp) _ | exact (((Below.refl _ _).alloc (Nat.le_refl _) _).alloc (by simp) _).alloc (by simp) _)).mono ?_
  rintro e w1 ⟨rfl, rfl⟩
  go_wp2_with fail
  first | go_ret3 | go_ret2 | go_ret
  exact ⟨rfl, (by first | exact Below.refl _ _ | exact (Below.refl _ _).drew | exact (Below.refl _ _).alloc (Nat.le_refl _) _ | exact ((Below.refl _ _).alloc (Nat.le_refl _) _).alloc (by simp) _ | exact (((Below.refl _ _).alloc (Nat.le_refl _) _).alloc (by simp) _).alloc (by simp) _)⟩
theorem nb_Reached (p : Option Addr) (w : World) (h : Nobody w p) : Calls Tryz.prog 12 #[.pointer p, .int .i64 0] w fun e w' => e = .returned (.int .i64 0) ∧ Below w.heap.size w w' := by
  have NN : Hid (∀ wq, Below w.heap.size w wq → Calls Tryz.prog 17 #[.pointer p] wq fun e w' => e = .returned (.bool true) ∧ w' = wq) := fun wq hq => nb_none p wq (h.below hq)
  clear h
  go_enter Tryz.func12, Tryz.ntmps12
  go_wp2_with fail
  refine (NN.out _ (by first | exact Below.refl _ _ | exact (Below.refl _ _).drew | exact (Below.refl _ _).alloc (Nat.le_refl _) _ | exact ((Below.refl _ _).alloc (Nat.le_refl _) _).alloc (by simp) _ | exact (((Below.refl _ _).alloc (Nat.le_refl _) _).alloc (by simp) _).alloc (by simp) _)).mono ?_
  rintro e w1 ⟨rfl, rfl⟩
  go_wp2_with fail
  first | go_ret3 | go_ret2 | go_ret
  exact ⟨rfl, (by first | exact Below.refl _ _ | exact (Below.refl _ _).drew | exact (Below.refl _ _).alloc (Nat.le_refl _) _ | exact ((Below.refl _ _).alloc (Nat.le_refl _) _).alloc (by simp) _ | exact (((Below.refl _ _).alloc (Nat.le_refl _) _).alloc (by simp) _).alloc (by simp) _)⟩
theorem nb_Pinned (p : Option Addr) (w : World) (h : Nobody w p) : Calls Tryz.prog 13 #[.pointer p, .int .i64 0] w fun e w' => e = .returned (.int .i64 0) ∧ Below w.heap.size w w' := by
  have NN : Hid (∀ wq, Below w.heap.size w wq → Calls Tryz.prog 17 #[.pointer p] wq fun e w' => e = .returned (.bool true) ∧ w' = wq) := fun wq hq => nb_none p wq (h.below hq)
  clear h
  go_enter Tryz.func13, Tryz.ntmps13
  go_wp2_with fail
  refine (NN.out _ (by first | exact Below.refl _ _ | exact (Below.refl _ _).drew | exact (Below.refl _ _).alloc (Nat.le_refl _) _ | exact ((Below.refl _ _).alloc (Nat.le_refl _) _).alloc (by simp) _ | exact (((Below.refl _ _).alloc (Nat.le_refl _) _).alloc (by simp) _).alloc (by simp) _)).mono ?_
  rintro e w1 ⟨rfl, rfl⟩
  go_wp2_with fail
  first | go_ret3 | go_ret2 | go_ret
  exact ⟨rfl, (by first | exact Below.refl _ _ | exact (Below.refl _ _).drew | exact (Below.refl _ _).alloc (Nat.le_refl _) _ | exact ((Below.refl _ _).alloc (Nat.le_refl _) _).alloc (by simp) _ | exact (((Below.refl _ _).alloc (Nat.le_refl _) _).alloc (by simp) _).alloc (by simp) _)⟩
theorem nb_Live (p : Option Addr) (w : World) (h : Nobody w p) : Calls Tryz.prog 14 #[.pointer p] w fun e w' => e = .returned (.int .i64 0) ∧ Below w.heap.size w w' := by
  have NN : Hid (∀ wq, Below w.heap.size w wq → Calls Tryz.prog 17 #[.pointer p] wq fun e w' => e = .returned (.bool true) ∧ w' = wq) := fun wq hq => nb_none p wq (h.below hq)
  clear h
  go_enter Tryz.func14, Tryz.ntmps14
  go_wp2_with fail
  go_loopw [4, 3] (fun x y wr => x = .int .i64 0 ∧ y = .int .i64 0 ∧ wr = w) (fun _ _ _ => 0)
  case atStart => exact ⟨rfl, rfl, rfl⟩
  case round =>
    obtain ⟨rfl, rfl, rfl⟩ := hrel
    go_wp2_with fail
    refine (NN.out _ (by first | exact Below.refl _ _ | exact (Below.refl _ _).drew | exact (Below.refl _ _).alloc (Nat.le_refl _) _ | exact ((Below.refl _ _).alloc (Nat.le_refl _) _).alloc (by simp) _ | exact (((Below.refl _ _).alloc (Nat.le_refl _) _).alloc (by simp) _).alloc (by simp) _)).mono ?_
    rintro e w1 ⟨rfl, rfl⟩
    go_wp2_with fail
    go_ret
    exact ⟨rfl, Below.refl _ _⟩

set_option maxHeartbeats 8000000 in
theorem nobody_walk (c0 c1 c2 c3 c4 c5 c6 c7 c8 c9 c10 c11 c12 c13 c14 c15 c16 c17 c18 c19 c20 c21 c22 c23 c24 c25 c26 : Value) (w : World) :
    Calls Tryz.prog 3 #[.agg #[c0, c1, c2, c3, c4, c5, c6, c7, c8, c9, c10, c11, c12, c13, c14, c15, c16, c17, c18, c19, c20, c21, c22, c23, c24, c25, c26]] w fun e w' => e = .returned (.bool true) ∧ Below w.heap.size w w' := by
  obtain ⟨W3, hW3⟩ : ∃ W3, W3 = ((w.alloc (.cells #[c0, c1, c2, c3, c4, c5, c6, c7, c8, c9, c10, c11, c12, c13, c14, c15, c16, c17, c18, c19, c20, c21, c22, c23, c24, c25, c26] 30)).alloc (.cells #[.pointer none, .pointer none, .slice none 0 0, .pointer none, .map none, .map none, .int .i64 0] 39)).alloc (.cells #[.pointer none, .pointer (some ⟨w.heap.size + 1, 0, none⟩)] 31) := ⟨_, rfl⟩
  have hsz : W3.heap.size = w.heap.size + 3 := by rw [hW3]; simp
  have hfl : ∀ wq, Below (w.heap.size + 3) W3 wq → wq.cell? ⟨w.heap.size + 2, 0, none⟩ = some (.pointer none) ∧ wq.cell? ⟨w.heap.size + 2, 1, none⟩ = some (.pointer (some ⟨w.heap.size + 1, 0, none⟩)) ∧ wq.cell? ⟨w.heap.size + 1, 4, none⟩ = some (.map none) ∧ w.heap.size + 1 < wq.heap.size := by
    intro wq hq
    have h : ∀ j, W3.cell? ⟨w.heap.size + 2, j, none⟩ = #[Value.pointer none, .pointer (some ⟨w.heap.size + 1, 0, none⟩)][j]? := by
      intro j
      rw [hW3]
      exact World.cell?_alloc_at _ _ _ j (by simp)
    have h' : W3.cell? ⟨w.heap.size + 1, 4, none⟩ = some (.map none) := by
      rw [hW3, World.cell?_alloc_lt _ _ _ (by simp)]
      rw [World.cell?_alloc_at _ _ _ 4 (by simp)]; rfl
    exact ⟨(hq.cell (p := ⟨w.heap.size + 2, 0, none⟩) (by simp)).trans (h 0), (hq.cell (p := ⟨w.heap.size + 2, 1, none⟩) (by simp)).trans (h 1), (hq.cell (p := ⟨w.heap.size + 1, 4, none⟩) (by simp)).trans h', by have := hq.size; omega⟩
  have hfc : ∀ wq, Below (w.heap.size + 3) W3 wq → ∀ j, wq.cell? ⟨w.heap.size, j, none⟩ = #[c0, c1, c2, c3, c4, c5, c6, c7, c8, c9, c10, c11, c12, c13, c14, c15, c16, c17, c18, c19, c20, c21, c22, c23, c24, c25, c26][j]? := by
    intro wq hq j
    refine (hq.cell (p := ⟨w.heap.size, j, none⟩) (by simp)).trans ?_
    rw [hW3, World.cell?_alloc_lt _ _ _ (by simp <;> omega), World.cell?_alloc_lt _ _ _ (by simp <;> omega)]
    exact World.cell?_alloc_at _ _ _ j (by simp)
  have hfx : ∀ wq, Below (w.heap.size + 3) W3 wq → w.heap.size < wq.heap.size := fun wq hq => by have := hq.size; omega
  have hb3 : Below w.heap.size w W3 := by rw [hW3]; exact ((((Below.refl _ _).alloc (by simp <;> omega) _).alloc (by simp <;> omega) _).alloc (by simp <;> omega) _)
  have FL := Lib.hid hfl
  have FC := Lib.hid hfc
  have FX := Lib.hid hfx
  have B3 := Lib.hid hb3
  have W3E := Lib.hid hW3
  have SZ3 := Lib.hid hsz
  clear hfl hb3 hW3 hsz hfc hfx
  go_enter Tryz.func3, Tryz.ntmps3
  go_wp2_with fail
  go_loopw [20] (fun i wr => ∃ k : Nat, k ≤ 2 ∧ i = .int .i64 k ∧ Hid (Below (w.heap.size + 3) W3 wr)) (fun i _ => 2 - (intOf i).toNat)
  case atStart => exact ⟨0, by omega, rfl, by rw [W3E.out]; exact Below.refl _ _⟩
  case round =>
    obtain ⟨k, hk, rfl, HB⟩ := hrel
    by_cases hlt : k < 2
    · obtain ⟨l0, l1, l2, l3⟩ := FL.out _ HB.out
      have hp : ∃ p : Option Addr, wr.cell? ⟨w.heap.size + 2, k, none⟩ = some (.pointer p) ∧ ∀ wq, Below (w.heap.size + 3) W3 wq → Nobody wq p := by
        have : k = 0 ∨ k = 1 := by omega
        rcases this with rfl | rfl
        · exact ⟨_, l0, fun _ _ => .inl rfl⟩
        · refine ⟨_, l1, fun wq hq => ?_⟩
          obtain ⟨-, -, q2, q3⟩ := FL.out wq hq
          exact .inr ⟨_, rfl, q2, q3⟩
      obtain ⟨p, hp, hno⟩ := hp
      have FN := Lib.hid hno
      have k0 : (0 : Int) ≤ (k : Int) := by omega
      have k1 : (k : Int) < 2 := by omega
      clear l0 l1 l2 l3 hno
      have RG : wr.rangeAt w.heap.size 0 [c0, c1, c2, c3, c4, c5, c6, c7, c8, c9, c10, c11, c12, c13, c14, c15, c16, c17, c18, c19, c20, c21, c22, c23, c24, c25, c26] := fun j v hv => by
        rw [Nat.zero_add]
        exact (FC.out _ HB.out j).trans ((List.getElem?_toArray (xs := [c0, c1, c2, c3, c4, c5, c6, c7, c8, c9, c10, c11, c12, c13, c14, c15, c16, c17, c18, c19, c20, c21, c22, c23, c24, c25, c26])).trans hv)
      have RG' := Lib.hid RG
      have fx := FX.out _ HB.out
      clear RG
      go_wp2_with (refine wpList_load_mid rfl 30 _ rfl w.heap.size 0 rfl [c0, c1, c2, c3, c4, c5, c6, c7, c8, c9, c10, c11, c12, c13, c14, c15, c16, c17, c18, c19, c20, c21, c22, c23, c24, c25, c26] _ RG'.out Tryz.underlying30 rfl (by kernel_rfl) ?_)
      refine (nb_Install _ _ _ _ _ _ _ _ _ _ _ _ _ _ _ _ _ _ _ _ _ _ _ _ _ _ _ _ _ (FN.out _ HB.out)).mono ?_
      rintro e w100 ⟨rfl, hb⟩
      have HB2 : Hid (Below (w.heap.size + 3) W3 w100) := (HB.out.trans (hb.mono (by have := HB.out.size; have := SZ3.out; omega)))
      clear RG' fx
      clear hb HB
      have HB := Lib.hid HB2.out
      clear HB2
      have fx := FX.out _ HB.out
      have f0 : _ = some c0 := FC.out _ HB.out 0
      have f1 : _ = some c1 := FC.out _ HB.out 1
      have f3 : _ = some c3 := FC.out _ HB.out 3
      go_wp2_with fail
      refine (nb_Lookup _ _ _ _ _ (FN.out _ HB.out)).mono ?_
      rintro e w101 ⟨rfl, hb⟩
      have HB2 : Hid (Below (w.heap.size + 3) W3 w101) := (HB.out.trans (hb.mono (by have := HB.out.size; have := SZ3.out; omega)))
      clear hb HB fx f0 f1 f3
      have HB := Lib.hid HB2.out
      clear HB2
      go_wp2_with fail
      refine (nb_Info _ _ (FN.out _ HB.out)).mono ?_
      rintro e w102 ⟨rfl, hb⟩
      have HB2 : Hid (Below (w.heap.size + 3) W3 (w102.alloc (.cells #[.int .i64 0, .bool false, .bool false, .bool false, .bool false, .bool false, .bool false, .bool false, .int .i64 0, .int .i64 0, .int .i64 0, .int .i64 0, .int .i64 0, .int .i64 0, .int .i64 0, .int .i64 0, .int .i64 0, .int .i64 0, .int .i64 0, .int .i64 0, .string ⟨#[]⟩] 27))) := ((HB.out.trans (hb.mono (by have := HB.out.size; have := SZ3.out; omega)))).alloc (by have := HB.out.size; have := hb.size; have := SZ3.out; omega) _
      clear hb HB
      have HB := Lib.hid HB2.out
      clear HB2
      unfold meta0
      go_wp2_with (refine wpList_store_new 27 #[.int .i64 0, .bool false, .bool false, .bool false, .bool false, .bool false, .bool false, .bool false, .int .i64 0, .int .i64 0, .int .i64 0, .int .i64 0, .int .i64 0, .int .i64 0, .int .i64 0, .int .i64 0, .int .i64 0, .int .i64 0, .int .i64 0, .int .i64 0, .string ⟨#[]⟩] #[.int .i64 0, .bool false, .bool false, .bool false, .bool false, .bool false, .bool false, .bool false, .int .i64 0, .int .i64 0, .int .i64 0, .int .i64 0, .int .i64 0, .int .i64 0, .int .i64 0, .int .i64 0, .int .i64 0, .int .i64 0, .int .i64 0, .int .i64 0, .string ⟨#[]⟩] size_meta rfl one_meta rfl _ _ rfl rfl rfl ?_)
      refine (nb_Read _ _ (FN.out _ HB.out)).mono ?_
      rintro e w103 ⟨rfl, hb⟩
      have HB2 : Hid (Below (w.heap.size + 3) W3 w103) := (HB.out.trans (hb.mono (by have := HB.out.size; have := SZ3.out; omega)))
      clear hb HB
      have HB := Lib.hid HB2.out
      clear HB2
      go_wp2_with fail
      refine (nb_Release _ _ (FN.out _ HB.out)).mono ?_
      rintro e w104 ⟨rfl, hb⟩
      have HB2 : Hid (Below (w.heap.size + 3) W3 w104) := (HB.out.trans (hb.mono (by have := HB.out.size; have := SZ3.out; omega)))
      clear hb HB
      have HB := Lib.hid HB2.out
      clear HB2
      have RG : w104.rangeAt w.heap.size 4 [c4, c5, c6, c7, c8, c9, c10, c11, c12, c13, c14, c15, c16, c17, c18, c19, c20, c21, c22, c23, c24] := fun j v hv => by
        refine (FC.out _ HB.out (4 + j)).trans ((List.getElem?_toArray (xs := [c0, c1, c2, c3, c4, c5, c6, c7, c8, c9, c10, c11, c12, c13, c14, c15, c16, c17, c18, c19, c20, c21, c22, c23, c24, c25, c26])).trans ?_)
        have e : ([c0, c1, c2, c3, c4, c5, c6, c7, c8, c9, c10, c11, c12, c13, c14, c15, c16, c17, c18, c19, c20, c21, c22, c23, c24, c25, c26] : List Value)[4 + j]? = ([c4, c5, c6, c7, c8, c9, c10, c11, c12, c13, c14, c15, c16, c17, c18, c19, c20, c21, c22, c23, c24] ++ [c25, c26])[j]? := by rw [Nat.add_comm]; rfl
        rw [e, List.getElem?_append_left (List.getElem?_eq_some_iff.1 hv).1]
        exact hv
      have RG' := Lib.hid RG
      have fx := FX.out _ HB.out
      clear RG
      go_wp2_with (refine wpList_load_guarded 27 _ rfl (by rfl) w.heap.size 4 rfl [c4, c5, c6, c7, c8, c9, c10, c11, c12, c13, c14, c15, c16, c17, c18, c19, c20, c21, c22, c23, c24] _ RG'.out Tryz.underlying27 rfl (by kernel_rfl) ?_)
      refine (nb_Refresh _ _ _ _ _ _ _ _ _ _ _ _ _ _ _ _ _ _ _ _ _ _ _ (FN.out _ HB.out)).mono ?_
      rintro e w105 ⟨rfl, hb⟩
      have HB2 : Hid (Below (w.heap.size + 3) W3 w105) := (HB.out.trans (hb.mono (by have := HB.out.size; have := SZ3.out; omega)))
      clear RG' fx
      clear hb HB
      have HB := Lib.hid HB2.out
      clear HB2
      go_wp2_with fail
      refine (nb_Purge _ _ (FN.out _ HB.out)).mono ?_
      rintro e w106 ⟨rfl, hb⟩
      have HB2 : Hid (Below (w.heap.size + 3) W3 w106) := (HB.out.trans (hb.mono (by have := HB.out.size; have := SZ3.out; omega)))
      clear hb HB
      have HB := Lib.hid HB2.out
      clear HB2
      go_wp2_with fail
      refine (nb_Reached _ _ (FN.out _ HB.out)).mono ?_
      rintro e w107 ⟨rfl, hb⟩
      have HB2 : Hid (Below (w.heap.size + 3) W3 w107) := (HB.out.trans (hb.mono (by have := HB.out.size; have := SZ3.out; omega)))
      clear hb HB
      have HB := Lib.hid HB2.out
      clear HB2
      go_wp2_with fail
      refine (nb_Pinned _ _ (FN.out _ HB.out)).mono ?_
      rintro e w108 ⟨rfl, hb⟩
      have HB2 : Hid (Below (w.heap.size + 3) W3 w108) := (HB.out.trans (hb.mono (by have := HB.out.size; have := SZ3.out; omega)))
      clear hb HB
      have HB := Lib.hid HB2.out
      clear HB2
      go_wp2_with fail
      refine (nb_Live _ _ (FN.out _ HB.out)).mono ?_
      rintro e w109 ⟨rfl, hb⟩
      have HB2 : Hid (Below (w.heap.size + 3) W3 w109) := (HB.out.trans (hb.mono (by have := HB.out.size; have := SZ3.out; omega)))
      clear hb HB
      have HB := Lib.hid HB2.out
      clear HB2
      go_wp2_with fail
      go_roundw
      case rel => exact ⟨k + 1, by omega, by go_num, HB.out⟩
      case measure => simp [intOf]; omega
    · go_wp2_with fail
      go_ret
      exact ⟨rfl, B3.out.trans (HB.out.mono (by omega))⟩
#print axioms nobody_walk
end Go.Proofs.YtmniedeibafebaaGreatDoor.CacheN
