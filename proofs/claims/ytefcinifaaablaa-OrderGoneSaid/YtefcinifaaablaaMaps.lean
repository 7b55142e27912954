/-
  Maps, said of assertions: a map that the program owns, as a list of keys and elements.
-/
import Derived.Test.YtefcinifaaablaaMem
import Derived.Maps.Own
import Derived.Maps.OwnOps
namespace Go.Sep
open Go.RowKit Go.MapKept
open Go.Maps (Keyed)
open Go.ChangeMaps (setBlock heap_setBlock_same heap_setBlock_other)
set_option linter.unusedSimpArgs false
set_option linter.unusedVariables false

/-- a type of keys: how a key is written as a value, which keys are good -/
structure KeyT (P : Program) (kt : TypeId) {κ : Type} (ke : κ → Value) (ok : κ → Prop) : Prop where
  K : Keyed P kt
  rd : ∀ k, ok k → ∃ l, keyOf P kt (ke k) = some l
  inj : ∀ a b, ke a = ke b → a = b
theorem intKey {P : Program} {kt : TypeId} (hk : P.underlying kt = some (.int .i64)) : KeyT P kt (fun k : Int => Value.int .i64 k) (fun k => (Lit.int .i64 k).wf = true) :=
  ⟨Go.Maps.int_keyed hk, fun k h => ⟨_, Go.Maps.keyOf_int_mk hk h⟩, fun a b h => by simpa using h⟩

def mapA {κ ν : Type} (ke : κ → Value) (ve : ν → Value) (ok : κ → Prop) (b : Nat) (E : List (κ × ν)) : Asr :=
  ex fun x : Array MapEntry × Nat => pur (x.1.toList.map (fun e => (e.key, e.val)) = E.map (fun p => (ke p.1, ve p.2)) ∧ Stamped x.1 x.2 ∧ ∀ p ∈ E, ok p.1) * pts b (.map x.1 x.2)

section
variable {P : Program} {kt : TypeId} {κ ν : Type} {ke : κ → Value} {ve : ν → Value} {ok : κ → Prop} {b : Nat} {E : List (κ × ν)} {w : World} {F : Asr}

theorem mapA_open (h : Holds w (mapA ke ve ok b E * F)) : ∃ es clock, es.toList.map (fun e => (e.key, e.val)) = E.map (fun p => (ke p.1, ve p.2)) ∧ Stamped es clock ∧ (∀ p ∈ E, ok p.1) ∧ Holds w (pts b (.map es clock) * F) := by
  unfold mapA at h
  rw [ex_star] at h
  obtain ⟨x, h⟩ := holds_ex.1 h
  rw [star_assoc] at h
  obtain ⟨⟨h1, h2, h3⟩, h4⟩ := holds_pur.1 h
  exact ⟨x.1, x.2, h1, h2, h3, h4⟩
theorem mapA_shut {es : Array MapEntry} {clock : Nat} (h1 : es.toList.map (fun e => (e.key, e.val)) = E.map (fun p => (ke p.1, ve p.2))) (h2 : Stamped es clock) (h3 : ∀ p ∈ E, ok p.1) (h : Holds w (pts b (.map es clock) * F)) : Holds w (mapA ke ve ok b E * F) := by
  unfold mapA
  rw [ex_star]
  refine holds_ex.2 ⟨(es, clock), ?_⟩
  rw [star_assoc]
  exact holds_pur.2 ⟨⟨h1, h2, h3⟩, h⟩
theorem mapA_new (h : Holds w (pts b (.map #[] 0) * F)) : Holds w (mapA ke ve ok b [] * F) := mapA_shut (by simp) (stamped_empty 0) (by simp) h
theorem mapA_keys {es : Array MapEntry} (h1 : es.toList.map (fun e => (e.key, e.val)) = E.map (fun p => (ke p.1, ve p.2))) (KT : KeyT P kt ke ok) (h3 : ∀ p ∈ E, ok p.1) : ∀ e ∈ es.toList, ∃ l, keyOf P kt e.key = some l := by
  intro e he
  have : (e.key, e.val) ∈ E.map (fun p => (ke p.1, ve p.2)) := h1 ▸ List.mem_map_of_mem he
  obtain ⟨p, hp, he⟩ := List.mem_map.1 this
  obtain ⟨l, hl⟩ := KT.rd p.1 (h3 p hp)
  simp only [Prod.mk.injEq] at he
  exact ⟨l, by rw [← he.1]; exact hl⟩
theorem mapA_nodup (KT : KeyT P kt ke ok) (h : Holds w (mapA ke ve ok b E * F)) : (E.map Prod.fst).Nodup := by
  obtain ⟨es, clock, h1, h2, h3, h4⟩ := mapA_open h
  have hn := h2.2.2
  have e : es.toList.map (·.key) = (E.map Prod.fst).map ke := by
    have := congrArg (List.map Prod.fst) h1
    simpa [List.map_map, Function.comp_def] using this
  rw [e] at hn
  unfold List.Nodup at hn ⊢
  rw [List.pairwise_map] at hn
  exact hn.imp fun h e => h (by rw [e])
theorem map_at {es : Array MapEntry} (h1 : es.toList.map (fun e => (e.key, e.val)) = E.map (fun p => (ke p.1, ve p.2))) (j : Nat) (e0 : MapEntry) (h : es.toList[j]? = some e0) : ∃ p, E[j]? = some p ∧ e0.key = ke p.1 ∧ e0.val = ve p.2 := by
  have := congrArg (fun l => l[j]?) h1
  simp only [List.getElem?_map, h, Option.map_some] at this
  cases hE : E[j]? with
  | none => simp [hE] at this
  | some p => simp only [hE, Option.map_some, Option.some.injEq, Prod.mk.injEq] at this; exact ⟨p, rfl, this.1, this.2⟩

variable [DecidableEq κ]
def getK (E : List (κ × ν)) (k : κ) : Option ν := (E.find? fun p => p.1 = k).map Prod.snd
def putK (E : List (κ × ν)) (k : κ) (v : ν) : List (κ × ν) := if k ∈ E.map Prod.fst then E.map (fun p => if p.1 = k then (k, v) else p) else E ++ [(k, v)]
def delK (E : List (κ × ν)) (k : κ) : List (κ × ν) := E.filter fun p => p.1 ≠ k

theorem getK_none {k : κ} (h : ∀ p ∈ E, p.1 ≠ k) : getK E k = none := by
  unfold getK
  rw [List.find?_eq_none.2 (by simpa using h)]; rfl
theorem getK_none' {k : κ} (h : getK E k = none) : ∀ p ∈ E, p.1 ≠ k := by
  unfold getK at h
  simp only [Option.map_eq_none_iff, List.find?_eq_none, decide_eq_true_eq] at h
  exact h
theorem getK_mem {k : κ} {v : ν} (h : getK E k = some v) : (k, v) ∈ E := by
  unfold getK at h
  obtain ⟨p, hp, rfl⟩ := Option.map_eq_some_iff.1 h
  have h1 := List.find?_some hp
  have h2 := List.mem_of_find?_eq_some hp
  simp only [decide_eq_true_eq] at h1
  rw [← h1]; exact h2
omit [DecidableEq κ] in
theorem nodup_mem_eq (hn : (E.map Prod.fst).Nodup) {k : κ} {v v' : ν} (h : (k, v) ∈ E) (h' : (k, v') ∈ E) : v = v' := by
  induction E with
  | nil => simp at h
  | cons p E ih =>
    simp only [List.map_cons, List.nodup_cons] at hn
    rcases List.mem_cons.1 h with e1 | h1
    · subst e1
      rcases List.mem_cons.1 h' with e2 | h2
      · simp only [Prod.mk.injEq] at e2; exact e2.2.symm
      · exact absurd (List.mem_map_of_mem (f := Prod.fst) h2) hn.1
    · rcases List.mem_cons.1 h' with e2 | h2
      · subst e2; exact absurd (List.mem_map_of_mem (f := Prod.fst) h1) hn.1
      · exact ih hn.2 h1 h2
theorem getK_some (hn : (E.map Prod.fst).Nodup) {k : κ} {v : ν} (h : (k, v) ∈ E) : getK E k = some v := by
  cases hg : getK E k with
  | none => exact absurd rfl (getK_none' hg _ h)
  | some u => rw [nodup_mem_eq hn h (getK_mem hg)]
theorem getK_iff (hn : (E.map Prod.fst).Nodup) {k : κ} {v : ν} : getK E k = some v ↔ (k, v) ∈ E := ⟨getK_mem, getK_some hn⟩
theorem mem_putK (hn : (E.map Prod.fst).Nodup) {k k' : κ} {v v' : ν} : (k', v') ∈ putK E k v ↔ (k' = k ∧ v' = v) ∨ (k' ≠ k ∧ (k', v') ∈ E) := by
  unfold putK
  split
  · rename_i hk
    obtain ⟨p0, hp0, hk0⟩ := List.mem_map.1 hk
    constructor
    · intro h
      obtain ⟨p, hp, he⟩ := List.mem_map.1 h
      split at he
      · simp only [Prod.mk.injEq] at he; exact .inl ⟨he.1.symm, he.2.symm⟩
      · rename_i hne; subst he; exact .inr ⟨hne, hp⟩
    · rintro (⟨rfl, rfl⟩ | ⟨hne, h⟩)
      · exact List.mem_map.2 ⟨p0, hp0, by rw [if_pos hk0]⟩
      · exact List.mem_map.2 ⟨_, h, by rw [if_neg hne]⟩
  · rename_i hk
    simp only [List.mem_append, List.mem_singleton, Prod.mk.injEq]
    constructor
    · rintro (h | ⟨rfl, rfl⟩)
      · exact .inr ⟨fun e => hk (e ▸ List.mem_map_of_mem (f := Prod.fst) h), h⟩
      · exact .inl ⟨rfl, rfl⟩
    · rintro (⟨rfl, rfl⟩ | ⟨_, h⟩)
      · exact .inr ⟨rfl, rfl⟩
      · exact .inl h
theorem mem_delK {k k' : κ} {v' : ν} : (k', v') ∈ delK E k ↔ k' ≠ k ∧ (k', v') ∈ E := by
  unfold delK; simp [and_comm]

theorem filter_erase {E : List (κ × ν)} {k : κ} (hn : (E.map Prod.fst).Nodup) (j : Nat) (p : κ × ν) (p1 : E[j]? = some p) (e : p.1 = k) : delK E k = E.eraseIdx j := by
  unfold delK
  induction E generalizing j with
  | nil => simp at p1
  | cons q E ih =>
    simp only [List.map_cons, List.nodup_cons] at hn
    cases j with
    | zero =>
      simp only [List.getElem?_cons_zero, Option.some.injEq] at p1
      subst p1
      rw [List.filter_cons_of_neg (by simp [e]), List.eraseIdx_cons_zero]
      refine List.filter_eq_self.2 fun x hx => ?_
      simp only [ne_eq, decide_not, Bool.not_eq_eq_eq_not, Bool.not_true, decide_eq_false_iff_not]
      intro hxe
      exact hn.1 (by rw [e, ← hxe]; exact List.mem_map_of_mem (f := Prod.fst) hx)
    | succ j =>
      simp only [List.getElem?_cons_succ] at p1
      have hq : q.1 ≠ k := by
        intro hq
        exact hn.1 (by rw [hq, ← e]; exact List.mem_map_of_mem (f := Prod.fst) (List.mem_of_getElem? p1))
      rw [List.filter_cons_of_pos (by simpa using hq), List.eraseIdx_cons_succ, ih hn.2 j p1]

variable {t et : TypeId}
/-- m[k], in a map or with 'ok' -/
theorem mapA_look (c : Bool) (KT : KeyT P kt ke ok) (ht : P.underlying t = some (.map kt et)) {z : Value} (hz : ∀ w, (zeroValue et).run P w = .ok z w) (h : Holds w (mapA ke ve ok b E * F)) (k : κ) (hk : ok k) :
    (Instr.lookup t (.map (some b)) (ke k) c).run P w = .ok (if c then .tuple #[((getK E k).map ve).getD z, .bool (getK E k).isSome] else ((getK E k).map ve).getD z) w := by
  have hn := mapA_nodup KT h
  obtain ⟨es, clock, h1, h2, h3, h4⟩ := mapA_open h
  obtain ⟨kl, hkl⟩ := KT.rd k hk
  have hb := h4.at
  rcases KT.K.find w hkl es.toList (mapA_keys h1 KT h3) with ⟨r1, r2⟩ | ⟨j, e0, r1, r2, r3⟩
  · have : getK E k = none := by
      refine getK_none (k := k) fun p hp e => ?_
      have : (ke p.1, ve p.2) ∈ es.toList.map (fun e => (e.key, e.val)) := h1 ▸ List.mem_map_of_mem (f := fun p : κ × ν => (ke p.1, ve p.2)) hp
      obtain ⟨x, hx, hxe⟩ := List.mem_map.1 this
      simp only [Prod.mk.injEq] at hxe
      exact r2 x hx (by rw [hxe.1, e])
    rw [this]
    simp [Instr.lookup, run_underlying ht, MapKept.run_getObj_map hb, KT.K.check w _ hkl, r1, hz, Result.andThen]
  · obtain ⟨p, p1, p2, p3⟩ := map_at h1 j e0 r2
    have e : p.1 = k := KT.inj _ _ (by rw [← p2, r3])
    have : getK E k = some p.2 := getK_some hn (by rw [← e]; exact List.mem_of_getElem? p1)
    rw [this]
    simp [Instr.lookup, run_underlying ht, MapKept.run_getObj_map hb, KT.K.check w _ hkl, r1, Result.andThen, p3]

theorem Holds.setBlock {es es' : Array MapEntry} {clock clock' : Nat} (h : Holds w (pts b (.map es clock) * F)) : Holds (setBlock w b (.map es' clock')) (pts b (.map es' clock') * F) :=
  h.upd (heap_setBlock_same h.at _) fun k hk _ => heap_setBlock_other h.at _ hk
theorem Sm.setBlock {a w : World} (h : Sm a w) (o : Obj) : Sm a (setBlock w b o) := h.trans ⟨rfl, rfl, rfl, by simp [Go.ChangeMaps.setBlock]⟩

/-- m[k] = v -/
theorem mapA_update (KT : KeyT P kt ke ok) (ht : P.underlying t = some (.map kt et)) (h : Holds w (mapA ke ve ok b E * F)) (k : κ) (hk : ok k) (v : ν) :
    ∃ w', (Instr.mapUpdate t (.map (some b)) (ke k) (ve v)).run P w = .ok () w' ∧ Holds w' (mapA ke ve ok b (putK E k v) * F) ∧ Sm w w' := by
  have hn := mapA_nodup KT h
  obtain ⟨es, clock, h1, h2, h3, h4⟩ := mapA_open h
  obtain ⟨kl, hkl⟩ := KT.rd k hk
  have hb := h4.at
  rcases KT.K.find w hkl es.toList (mapA_keys h1 KT h3) with ⟨r1, r2⟩ | ⟨j, e0, r1, r2, r3⟩
  · have hno : k ∉ E.map Prod.fst := by
      intro hm
      obtain ⟨p, hp, e⟩ := List.mem_map.1 hm
      have : (ke p.1, ve p.2) ∈ es.toList.map (fun e => (e.key, e.val)) := h1 ▸ List.mem_map_of_mem (f := fun p : κ × ν => (ke p.1, ve p.2)) hp
      obtain ⟨x, hx, hxe⟩ := List.mem_map.1 this
      simp only [Prod.mk.injEq] at hxe
      exact r2 x hx (by rw [hxe.1, e])
    refine ⟨Go.ChangeMaps.setBlock w b (.map (es.push ⟨ke k, ve v, clock⟩) (clock + 1)), ?_, mapA_shut ?_ (stamped_push h2 r2) ?_ h4.setBlock, (Sm.refl w).setBlock _⟩
    · simp [Instr.mapUpdate, run_underlying ht, MapKept.run_getObj_map hb, KT.K.check w false hkl, r1, MapKept.run_setObj_map _ hb, Result.andThen, Go.ChangeMaps.setBlock]
    · unfold putK; rw [if_neg hno]; simp [h1]
    · unfold putK; rw [if_neg hno]
      intro p hp
      rcases List.mem_append.1 hp with hp | hp
      · exact h3 p hp
      · simp only [List.mem_singleton] at hp; subst hp; exact hk
  · obtain ⟨p, p1, p2, p3⟩ := map_at h1 j e0 r2
    have e : p.1 = k := KT.inj _ _ (by rw [← p2, r3])
    have hin : k ∈ E.map Prod.fst := by rw [← e]; exact List.mem_map_of_mem (f := Prod.fst) (List.mem_of_getElem? p1)
    have hj : es[j]? = some e0 := by simpa using r2
    have hput : putK E k v = E.set j (k, v) := by
      unfold putK; rw [if_pos hin]
      apply List.ext_getElem?
      intro i
      rw [List.getElem?_map, List.getElem?_set]
      have hjl : j < E.length := (List.getElem?_eq_some_iff.1 p1).1
      by_cases hij : j = i
      · subst hij
        rw [if_pos rfl, if_pos hjl, p1, Option.map_some, if_pos e]
      · rw [if_neg hij]
        cases hi : E[i]? with
        | none => rfl
        | some q =>
          have : q.1 ≠ k := by
            intro hq
            have hp1 : (E.map Prod.fst)[j]? = some k := by simp [p1, e]
            have hq1 : (E.map Prod.fst)[i]? = some k := by simp [hi, hq]
            have hj' : j < (E.map Prod.fst).length := by simpa using hjl
            exact hij ((List.getElem?_inj hj' hn).1 (by rw [hp1, hq1]))
          simp [this]
    refine ⟨Go.ChangeMaps.setBlock w b (.map (es.modify j fun e' => { e' with key := ke k, val := ve v }) clock), ?_, mapA_shut ?_ (stamped_modify h2 j (fun e' => { e' with key := ke k, val := ve v }) (fun _ _ => rfl) (fun e' _ he' => by rw [hj] at he'; cases he'; exact r3.symm)) ?_ h4.setBlock, (Sm.refl w).setBlock _⟩
    · simp [Instr.mapUpdate, run_underlying ht, MapKept.run_getObj_map hb, KT.K.check w false hkl, r1, hj, r3, KT.K.stays w hkl, MapKept.run_setObj_map _ hb, Result.andThen, Go.ChangeMaps.setBlock]
    · rw [hput, Array.toList_modify, Go.ChangeMaps.modify_eq_set _ _ _ _ r2, List.map_set, h1, List.map_set]
    · rw [hput]
      intro q hq
      rcases List.mem_or_eq_of_mem_set hq with hq | rfl
      · exact h3 q hq
      · exact hk

/-- delete(m, k) -/
theorem mapA_delete (ty : TypeId) (KT : KeyT P kt ke ok) (ht : P.underlying t = some (.map kt et)) (h : Holds w (mapA ke ve ok b E * F)) (k : κ) (hk : ok k) :
    ∃ w', (Builtin.delete_ #[t, kt] ty #[.map (some b), ke k]).run P w = .ok (.tuple #[]) w' ∧ Holds w' (mapA ke ve ok b (delK E k) * F) ∧ Sm w w' := by
  have hn := mapA_nodup KT h
  obtain ⟨es, clock, h1, h2, h3, h4⟩ := mapA_open h
  obtain ⟨kl, hkl⟩ := KT.rd k hk
  have hb := h4.at
  have h3' : ∀ p ∈ delK E k, ok p.1 := fun p hp => h3 p (List.mem_filter.1 hp).1
  rcases KT.K.find w hkl es.toList (mapA_keys h1 KT h3) with ⟨r1, r2⟩ | ⟨j, e0, r1, r2, r3⟩
  · have hno : delK E k = E := by
      unfold delK
      refine List.filter_eq_self.2 fun p hp => ?_
      simp only [ne_eq, decide_not, Bool.not_eq_eq_eq_not, Bool.not_true, decide_eq_false_iff_not]
      intro e
      have : (ke p.1, ve p.2) ∈ es.toList.map (fun e => (e.key, e.val)) := h1 ▸ List.mem_map_of_mem (f := fun p : κ × ν => (ke p.1, ve p.2)) hp
      obtain ⟨x, hx, hxe⟩ := List.mem_map.1 this
      simp only [Prod.mk.injEq] at hxe
      exact r2 x hx (by rw [hxe.1, e])
    refine ⟨Go.ChangeMaps.setBlock w b (.map es clock), ?_, mapA_shut (by rw [hno]; exact h1) h2 h3' h4.setBlock, (Sm.refl w).setBlock _⟩
    simp [Builtin.delete_, run_underlying ht, MapKept.run_getObj_map hb, KT.K.check w _ hkl, r1, MapKept.run_setObj_map _ hb, Result.andThen, Go.ChangeMaps.setBlock]
  · obtain ⟨p, p1, p2, p3⟩ := map_at h1 j e0 r2
    have e : p.1 = k := KT.inj _ _ (by rw [← p2, r3])
    have hjl : j < E.length := (List.getElem?_eq_some_iff.1 p1).1
    have hjs : j < es.size := by have := (List.getElem?_eq_some_iff.1 r2).1; simpa using this
    have hdel : delK E k = E.eraseIdx j := filter_erase hn j p p1 e
    refine ⟨Go.ChangeMaps.setBlock w b (.map (es.eraseIdxIfInBounds j) clock), ?_, mapA_shut ?_ (stamped_erase h2 j) h3' h4.setBlock, (Sm.refl w).setBlock _⟩
    · simp [Builtin.delete_, run_underlying ht, MapKept.run_getObj_map hb, KT.K.check w _ hkl, r1, MapKept.run_setObj_map _ hb, Result.andThen, Go.ChangeMaps.setBlock]
    · rw [hdel]
      have hsub : (es.eraseIdxIfInBounds j).toList = es.toList.eraseIdx j := by
        unfold Array.eraseIdxIfInBounds
        rw [dif_pos hjs]; simp
      rw [hsub, Go.ChangeMaps.map_eraseIdx, h1, ← Go.ChangeMaps.map_eraseIdx]

variable {ops : Array Oper} {rest : List Oper} {o : Oper} {a : Act} {Q : Exit → Act → World → Prop}
theorem wpList_update_sep (hg : o.guard = none) (m x u : Operand) (hop : o.op = Op.mapUpdate t m x u) (KT : KeyT P kt ke ok) (ht : P.underlying t = some (.map kt et)) (h : Holds w (mapA ke ve ok b E * F)) (k : κ) (hk : ok k) (v : ν)
    (hm : a.eval m = .map (some b)) (hx : a.eval x = ke k) (hv : a.eval u = ve v)
    (hK : ∀ w', Holds w' (mapA ke ve ok b (putK E k v) * F) → Sm w w' → wpList P ops Q rest (a.put o.dst undef) w') : wpList P ops Q (o :: rest) a w := by
  refine wpList_plain hg fun K' hK' => ?_
  obtain ⟨w', hrun, r1, r2⟩ := mapA_update KT ht h k hk v
  unfold Oper.wp
  simp [execOp, hop, hm, hx, hv, hrun, Result.andThen]
  exact hK' _ _ (hK w' r1 r2)
theorem wpList_insert_sep (hg : o.guard = none) (m x u : Operand) (hop : o.op = Op.insert t m x u) (KT : KeyT P kt ke ok) (ht : P.underlying t = some (.map kt et)) (h : Holds w (mapA ke ve ok b E * F)) (k : κ) (hk : ok k) (v : ν)
    (hm : a.eval m = .map (some b)) (hx : a.eval x = ke k) (hv : a.eval u = ve v)
    (hK : ∀ w', Holds w' (mapA ke ve ok b (putK E k v) * F) → Sm w w' → wpList P ops Q rest (a.put o.dst undef) w') : wpList P ops Q (o :: rest) a w := by
  refine wpList_plain hg fun K' hK' => ?_
  obtain ⟨w', hrun, r1, r2⟩ := mapA_update KT ht h k hk v
  unfold Oper.wp
  simp [execOp, hop, hm, hx, hv, hrun, Result.andThen]
  exact hK' _ _ (hK w' r1 r2)
theorem wpList_delete_sep (hg : o.guard = none) (m x : Operand) (hop : o.op = .call { callee := .builtin .delete, args := #[m, x], argTypes := #[t, kt] }) (KT : KeyT P kt ke ok) (ht : P.underlying t = some (.map kt et)) (h : Holds w (mapA ke ve ok b E * F)) (k : κ) (hk : ok k)
    (hm : a.eval m = .map (some b)) (hx : a.eval x = ke k)
    (hK : ∀ w', Holds w' (mapA ke ve ok b (delK E k) * F) → Sm w w' → wpList P ops Q rest (a.put o.dst (.tuple #[])) w') : wpList P ops Q (o :: rest) a w := by
  refine wpList_plain hg fun K' hK' => ?_
  obtain ⟨w', hrun, r1, r2⟩ := mapA_delete o.type KT ht h k hk
  unfold Oper.wp execOp
  simp only [hop, resolve, invoke, builtin, Sem.run_bind, Sem.run_pure, Result.andThen_ok, List.map_toArray, List.map_cons, List.map_nil, hm, hx, hrun]
  exact hK' _ _ (hK w' r1 r2)
end
#print axioms wpList_update_sep
#print axioms wpList_delete_sep
#print axioms mapA_look
end Go.Sep
