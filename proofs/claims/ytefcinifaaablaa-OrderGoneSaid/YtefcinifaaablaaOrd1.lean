/-
  Layer 27: maps keyed by structs, range over a map of one entry, mapEntry and entryStore.
-/
import Derived.Test.YtefcinifaaablaaMaps
import Derived.Test.YtefcinifaaablaaReg
import Derived.Laws.IdiomRangeMap
import Derived.DeepKeys4
import Derived.ProofKit
namespace Go.Sep
open Go.RowKit Go.MapKept
open Go.Maps (Keyed)
open Go.ChangeMaps (setBlock heap_setBlock_same heap_setBlock_other)
set_option linter.unusedSimpArgs false
set_option linter.unusedVariables false
section
variable {P : Program} {ops : Array Oper} {rest : List Oper} {o : Oper} {a : Act} {w : World} {Q : Exit → Act → World → Prop}

theorem wpList_range_map (hg : o.guard = none) (m : Operand) (t : TypeId) (hop : o.op = Op.range t m) {k e : TypeId} (ht : P.underlying t = some (.map k e)) {b clock : Nat} {es : Array MapEntry}
    (hm : a.eval m = .map (some b)) (hb : w.heap[b]? = some (.map es clock))
    (hK : wpList P ops Q rest (a.put o.dst (.pointer (some ⟨w.heap.size, 0, none⟩))) (w.alloc (.mapIter (some b) clock #[] clock))) : wpList P ops Q (o :: rest) a w := by
  refine wpList_plain hg fun K' hK' => ?_
  have hrun := run_range_map (P := P) w t k e b es clock ht hb
  unfold Oper.wp
  simp [execOp, hop, hm, hrun, Result.andThen]
  exact hK' _ _ hK
theorem wpList_next0 (hg : o.guard = none) (it : Operand) (hop : o.op = Op.next it false) {b clock : Nat} (hb : w.heap[b]? = some (.map #[] clock)) (hit : a.eval it = .pointer (some ⟨w.heap.size, 0, none⟩))
    (hK : wpList P ops Q rest (a.put o.dst (.tuple #[.bool false])) (w.alloc (.mapIter (some b) clock #[] clock))) : wpList P ops Q (o :: rest) a (w.alloc (.mapIter (some b) clock #[] clock)) := by
  refine wpList_plain hg fun K' hK' => ?_
  have hrun : (Instr.next (.pointer (some ⟨w.heap.size, 0, none⟩)) false o.type).run P (w.alloc (.mapIter (some b) clock #[] clock)) = .ok (.tuple #[.bool false]) (w.alloc (.mapIter (some b) clock #[] clock)) := by
    rcases run_next_map (P := P) w o.type b clock clock #[] #[] clock hb (by simp) (Nat.le_refl _) with h | ⟨e, he, -⟩
    · exact h.2
    · simp [leftOf] at he
  unfold Oper.wp
  simp [execOp, hop, hit, hrun, Result.andThen]
  exact hK' _ _ hK
theorem run_next_one (w : World) (ty : TypeId) (b born clock : Nat) (k v : Value) (hb : w.heap[b]? = some (.map #[⟨k, v, born⟩] clock)) (hlt : born < clock) :
    (Instr.next (.pointer (some ⟨w.heap.size, 0, none⟩)) false ty).run P (w.alloc (.mapIter (some b) clock #[] clock)) = .ok (.tuple #[.bool true, k, v]) (w.alloc (.mapIter (some b) clock #[born] clock)) := by
  have hbl : b < w.heap.size := by
    rcases Nat.lt_or_ge b w.heap.size with h | h
    · exact h
    · simp [Array.getElem?_eq_none h] at hb
  have hb' : (w.alloc (.mapIter (some b) clock #[] clock)).heap[b]? = some (.map #[⟨k, v, born⟩] clock) := by rw [heap_alloc_old w _ hbl, hb]
  have hp : ∀ (h : Array Obj) (x y : Obj), (h.push x).setIfInBounds h.size y = h.push y := by
    intro h x y
    apply Array.toList_inj.1
    simp
  have hset : ∀ (o' : Obj), (setObj w.heap.size o').run P (w.alloc (.mapIter (some b) clock #[] clock)) = .ok () (w.alloc o') := fun o' => by
    simp only [setObj, Sem.run]
    rw [heap_alloc_new]
    show Result.ok () ({ w.alloc (.mapIter (some b) clock #[] clock) with heap := (w.heap.push (.mapIter (some b) clock #[] clock)).setIfInBounds w.heap.size o' } : World) = _
    rw [hp]
    rfl
  have hd : decide (born < clock) = true := by simpa using hlt
  have hd2 : decide (born ≥ clock) = false := by simpa using hlt
  simp only [Instr.next, getObj, Sem.run_bind, Sem.run, heap_alloc_new, hb', Result.andThen]
  simp [choose, Sem.run, Question.forced, hset, hlt, hd, hd2, show ¬ clock ≤ born by omega, Result.andThen]
theorem wpList_next1 (hg : o.guard = none) (it : Operand) (hop : o.op = Op.next it false) {b clock born : Nat} {k v : Value} (hb : w.heap[b]? = some (.map #[⟨k, v, born⟩] clock)) (hlt : born < clock) (hit : a.eval it = .pointer (some ⟨w.heap.size, 0, none⟩))
    (hK : wpList P ops Q rest (a.put o.dst (.tuple #[.bool true, k, v])) (w.alloc (.mapIter (some b) clock #[born] clock))) : wpList P ops Q (o :: rest) a (w.alloc (.mapIter (some b) clock #[] clock)) := by
  refine wpList_plain hg fun K' hK' => ?_
  have hrun := run_next_one (P := P) w o.type b born clock k v hb hlt
  unfold Oper.wp
  simp [execOp, hop, hit, hrun, Result.andThen]
  exact hK' _ _ hK
theorem wpList_entry1 (hg : o.guard = none) (it : Operand) (hop : o.op = Op.entry it) {b clock born : Nat} {k v : Value} (hb : w.heap[b]? = some (.map #[⟨k, v, born⟩] clock)) (hit : a.eval it = .pointer (some ⟨w.heap.size, 0, none⟩))
    (hK : wpList P ops Q rest (a.put o.dst (.tuple #[k, v])) (w.alloc (.mapIter (some b) clock #[born] clock))) : wpList P ops Q (o :: rest) a (w.alloc (.mapIter (some b) clock #[born] clock)) := by
  refine wpList_plain hg fun K' hK' => ?_
  have hrun := run_entry_map (P := P) w b clock #[] #[⟨k, v, born⟩] clock ⟨k, v, born⟩ hb (by simp) (by simp)
  unfold Oper.wp
  simp at hrun
  simp [execOp, hop, hit, hrun, Result.andThen]
  exact hK' _ _ hK
end
section
variable {P : Program} {kt et t : TypeId} {κ ν : Type} {ke : κ → Value} {ve : ν → Value} {ok : κ → Prop} {b : Nat} {w : World} {F : Asr}
theorem mapA_zero (h : Holds w (mapA ke ve ok b ([] : List (κ × ν)) * F)) : ∃ c, Holds w (pts b (.map #[] c) * F) := by
  obtain ⟨es, c, h1, -, -, h4⟩ := mapA_open h
  have : es = #[] := by apply Array.toList_inj.1; simpa using h1
  subst this
  exact ⟨c, h4⟩
theorem mapA_one {k : κ} {v : ν} (h : Holds w (mapA ke ve ok b [(k, v)] * F)) : ∃ born c, born < c ∧ Holds w (pts b (.map #[⟨ke k, ve v, born⟩] c) * F) := by
  obtain ⟨es, c, h1, h2, -, h4⟩ := mapA_open h
  obtain ⟨e, he⟩ : ∃ e, es = #[e] := by
    have hl : es.toList.length = 1 := by have := congrArg List.length h1; simpa using this
    obtain ⟨e, he⟩ := List.length_eq_one_iff.1 hl
    exact ⟨e, by apply Array.toList_inj.1; simpa using he⟩
  subst he
  simp at h1
  obtain ⟨k1, k2⟩ := h1
  refine ⟨e.born, c, ?_, by obtain ⟨k0, v0, b0⟩ := e; simp at k1 k2; subst k1 k2; exact h4⟩
  exact h2.1 e (by simp)
theorem mapA_one_mk {k : κ} {v : ν} {born c : Nat} (hk : ok k) (hlt : born < c) (h : Holds w (pts b (.map #[⟨ke k, ve v, born⟩] c) * F)) : Holds w (mapA ke ve ok b [(k, v)] * F) := by
  refine mapA_shut (es := #[⟨ke k, ve v, born⟩]) (clock := c) (by simp) ?_ (by simpa using hk) h
  have := stamped_push (es := #[]) (clock := born) (stamped_empty born) (key := ke k) (val := ve v) (by simp)
  exact ⟨by simp; exact hlt, this.2.1, this.2.2⟩
/-- m[k] = v in a drawn region, the map empty: the entry is made -/
theorem run_mapEntry (KT : KeyT P kt ke ok) (ht : P.underlying t = some (.map kt et)) {z : Value} (hz : ∀ w, (zeroValue et).run P w = .ok z w) (h : Holds w (mapA ke ve ok b ([] : List (κ × ν)) * F)) (k : κ) (hk : ok k) :
    ∃ (c : Nat) (w' : World), (Instr.mapEntry t (.map (some b)) (ke k)).run P w = .ok (.tuple #[z, .int .i64 c]) w' ∧ Holds w' (pts b (.map #[⟨ke k, z, c⟩] (c + 1)) * F) ∧ Sm w w' := by
  obtain ⟨c, h1⟩ := mapA_zero h
  obtain ⟨kl, hkl⟩ := KT.rd k hk
  have hb := h1.at
  have hf : (Instr.findKey kt (ke k) []).run P w = .ok none w := by
    rcases KT.K.find w hkl [] (by simp) with ⟨r1, -⟩ | ⟨j, e0, -, r2, -⟩
    · exact r1
    · simp at r2
  refine ⟨c, setBlock w b (.map #[⟨ke k, z, c⟩] (c + 1)), ?_, h1.setBlock, (Sm.refl w).setBlock _⟩
  simp [Instr.mapEntry, run_underlying ht, MapKept.run_getObj_map hb, KT.K.check w false hkl, hf, hz, MapKept.run_setObj_map _ hb, Result.andThen, setBlock, goInt]
/-- and the value is laid into it -/
theorem run_entryStore {k : κ} {z : Value} {c : Nat} (h : Holds w (pts b (.map #[⟨ke k, z, c⟩] (c + 1)) * F)) (hk : ok k) (v : ν) :
    ∃ w', (Instr.entryStore t (.map (some b)) (.int .i64 c) (ve v)).run P w = .ok () w' ∧ Holds w' (mapA ke ve ok b [(k, v)] * F) ∧ Sm w w' := by
  have hb := h.at
  refine ⟨setBlock w b (.map #[⟨ke k, ve v, c⟩] (c + 1)), ?_, mapA_one_mk hk (Nat.lt_succ_self _) h.setBlock, (Sm.refl w).setBlock _⟩
  simp [Instr.entryStore, MapKept.run_getObj_map hb, asInt, asIntOf, List.modify, MapKept.run_setObj_map _ hb, Result.andThen, setBlock]
end
#print axioms run_mapEntry
#print axioms run_entryStore
#print axioms wpList_next1
end Go.Sep
