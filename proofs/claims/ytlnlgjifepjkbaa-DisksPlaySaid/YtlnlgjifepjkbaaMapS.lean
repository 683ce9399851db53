/- Maps by strings: what a look-up, a new entry, a deletion and a walk over the entries do to a block that is known. -/
import Derived.Test.YtlnlgjifepjkbaaBase
namespace Go.Proofs.Ytlnlgjifepjkbaa
open Go.RowKit
open Go.ChangeMaps (setBlock)
open Go.MapKept (bytes_beq IsKey run_setObj_map run_checkKey run_findKey)

/-- The entries of a map by strings, in their order. -/
structure MapS (es : Array MapEntry) (clock : Nat) (L : List (ByteArray × Value)) : Prop where
  kv : es.toList.map (fun e => (e.key, e.val)) = L.map (fun p => (Value.string p.1, p.2))
  nd : (L.map (·.1)).Nodup
  bn : (es.toList.map (·.born)).Nodup
  lt : ∀ e ∈ es.toList, e.born < clock

theorem MapS.size {es : Array MapEntry} {clock : Nat} {L : List (ByteArray × Value)} (h : MapS es clock L) : es.size = L.length := by
  have := congrArg List.length h.kv
  simpa using this
theorem MapS.empty : MapS #[] 0 [] := ⟨rfl, List.nodup_nil, List.nodup_nil, fun _ h => by cases h⟩

/-- What stands at a key. -/
def assocS (s : ByteArray) : List (ByteArray × Value) → Option Value
  | [] => none
  | p :: r => if s = p.1 then some p.2 else assocS s r
theorem assocS_none {s : ByteArray} : ∀ {L : List (ByteArray × Value)}, assocS s L = none ↔ s ∉ L.map (·.1)
  | [] => by simp [assocS]
  | p :: r => by
    by_cases h : s = p.1
    · simp [assocS, h]
    · simp only [assocS, if_neg h, List.map_cons, List.mem_cons, not_or]
      rw [assocS_none]
      exact ⟨fun k => ⟨h, k⟩, fun k => k.2⟩
theorem assocS_mem {s : ByteArray} {v : Value} : ∀ {L : List (ByteArray × Value)}, assocS s L = some v → (s, v) ∈ L
  | [], h => by cases h
  | p :: r, h => by
    by_cases e : s = p.1
    · subst e
      simp [assocS] at h
      subst h
      exact .head _
    · simp only [assocS, if_neg e] at h
      exact .tail _ (assocS_mem h)
theorem assocS_of_mem {s : ByteArray} {v : Value} : ∀ {L : List (ByteArray × Value)}, (L.map (·.1)).Nodup → (s, v) ∈ L → assocS s L = some v
  | [], _, h => by cases h
  | p :: r, hn, h => by
    simp only [List.map_cons, List.nodup_cons] at hn
    cases h with
    | head => simp [assocS]
    | tail _ h =>
      have hne : s ≠ p.1 := fun e => hn.1 (by rw [← e]; exact List.mem_map.2 ⟨(s, v), h, rfl⟩)
      simp only [assocS, if_neg hne]
      exact assocS_of_mem hn.2 h

theorem findNow_str (s : ByteArray) : ∀ (es : List MapEntry) (L : List (ByteArray × Value)) (i : Nat), es.map (fun e => (e.key, e.val)) = L.map (fun p => (Value.string p.1, p.2)) →
    (Instr.findNow .string (.string s) es i = some none ∧ assocS s L = none) ∨ ∃ j e v, Instr.findNow .string (.string s) es i = some (some (i + j, v)) ∧ es[j]? = some e ∧ e.key = .string s ∧ e.val = v ∧ assocS s L = some v
  | [], [], i, _ => .inl ⟨rfl, rfl⟩
  | [], _ :: _, _, h => by simp at h
  | _ :: _, [], _, h => by simp at h
  | e :: es, p :: L, i, h => by
    simp only [List.map_cons, List.cons.injEq, Prod.mk.injEq] at h
    obtain ⟨⟨hk, hv⟩, hr⟩ := h
    by_cases hs : s = p.1
    · have hb : (s == p.1) = true := (bytes_beq _ _).2 hs
      refine .inr ⟨0, e, p.2, ?_, rfl, by rw [hk, hs], hv, by simp [assocS, hs]⟩
      simp [Instr.findNow, hk, Instr.sameNow, hb, hv]
    · have hb : (s == p.1) = false := by
        cases hb : s == p.1
        · rfl
        · exact absurd ((bytes_beq _ _).1 hb) hs
      rcases findNow_str s es L (i + 1) hr with ⟨h1, h2⟩ | ⟨j, e', v, h1, h2, h3, h4, h5⟩
      · exact .inl ⟨by simp [Instr.findNow, hk, Instr.sameNow, hb, h1], by simp [assocS, hs, h2]⟩
      · exact .inr ⟨j + 1, e', v, by simp [Instr.findNow, hk, Instr.sameNow, hb, h1]; omega, by simpa using h2, h3, h4, by simp [assocS, hs, h5]⟩

section
variable {P : Program} {w : World} {t k e : TypeId} {m : Nat} {es : Array MapEntry} {clock : Nat} {L : List (ByteArray × Value)}

theorem run_lookup (ht : P.underlying t = some (.map k e)) (hk : P.underlying k = some .string) {z : Value} (hz : (zeroValue e).run P w = .ok z w) (hb : w.heap[m]? = some (.map es clock)) (h : MapS es clock L) (s : ByteArray) :
    (Instr.lookup t (.map (some m)) (.string s) false).run P w = .ok ((assocS s L).getD z) w := by
  have hck := run_checkKey (P := P) (w := w) hk (k := .string s) (by simp [IsKey]) es.isEmpty 9999
  rcases findNow_str s es.toList L 0 h.kv with ⟨h1, h2⟩ | ⟨j, e', v, h1, h2, h3, h4, h5⟩
  · simp [Instr.lookup, run_underlying ht, MapKept.run_getObj_map hb, hck, run_findKey hk h1, hz, Result.andThen, h2]
  · simp [Instr.lookup, run_underlying ht, MapKept.run_getObj_map hb, hck, run_findKey hk h1, Result.andThen, h5]
theorem run_lookup_ok (ht : P.underlying t = some (.map k e)) (hk : P.underlying k = some .string) {z : Value} (hz : (zeroValue e).run P w = .ok z w) (hb : w.heap[m]? = some (.map es clock)) (h : MapS es clock L) (s : ByteArray) :
    (Instr.lookup t (.map (some m)) (.string s) true).run P w = .ok (.tuple #[(assocS s L).getD z, .bool (assocS s L).isSome]) w := by
  have hck := run_checkKey (P := P) (w := w) hk (k := .string s) (by simp [IsKey]) es.isEmpty 9999
  rcases findNow_str s es.toList L 0 h.kv with ⟨h1, h2⟩ | ⟨j, e', v, h1, h2, h3, h4, h5⟩
  · simp [Instr.lookup, run_underlying ht, MapKept.run_getObj_map hb, hck, run_findKey hk h1, hz, Result.andThen, h2]
  · simp [Instr.lookup, run_underlying ht, MapKept.run_getObj_map hb, hck, run_findKey hk h1, Result.andThen, h5]

theorem run_put_new (ht : P.underlying t = some (.map k e)) (hk : P.underlying k = some .string) (hb : w.heap[m]? = some (.map es clock)) (h : MapS es clock L) {s : ByteArray} (hs : assocS s L = none) (v : Value) :
    (Instr.mapUpdate t (.map (some m)) (.string s) v).run P w = .ok () (setBlock w m (.map (es.push { key := .string s, val := v, born := clock }) (clock + 1))) := by
  have hck := run_checkKey (P := P) (w := w) hk (k := .string s) (by simp [IsKey]) false 9999
  rcases findNow_str s es.toList L 0 h.kv with ⟨h1, h2⟩ | ⟨j, e', v', h1, h2, h3, h4, h5⟩
  · simp [Instr.mapUpdate, run_underlying ht, MapKept.run_getObj_map hb, hck, run_findKey hk h1, Result.andThen, run_setObj_map _ hb, setBlock]
  · rw [h5] at hs; cases hs
theorem MapS.push (h : MapS es clock L) {s : ByteArray} (hs : assocS s L = none) (v : Value) : MapS (es.push { key := .string s, val := v, born := clock }) (clock + 1) (L ++ [(s, v)]) := by
  refine ⟨?_, ?_, ?_, ?_⟩
  · simp [h.kv]
  · rw [List.map_append, List.nodup_append]
    refine ⟨h.nd, by simp, ?_⟩
    intro a ha b hb e
    simp at hb
    subst hb
    subst e
    exact assocS_none.1 hs ha
  · simp only [Array.toList_push, List.map_append, List.map_cons, List.map_nil]
    rw [List.nodup_append]
    refine ⟨h.bn, by simp, ?_⟩
    intro a ha b hb e
    simp at hb
    subst hb
    obtain ⟨x, hx, rfl⟩ := List.mem_map.1 ha
    have := h.lt x hx
    omega
  · intro x hx
    simp at hx
    rcases hx with hx | rfl
    · have := h.lt x (by simpa using hx); omega
    · simp

/-- 'delete' of a key that is there. -/
theorem run_delete_there (ht : P.underlying t = some (.map k e)) (hk : P.underlying k = some .string) (hb : w.heap[m]? = some (.map es clock)) (h : MapS es clock L) {s : ByteArray} {v : Value} (hs : assocS s L = some v) (ks ty : TypeId) :
    ∃ es', (Builtin.delete_ #[t, ks] ty #[.map (some m), .string s]).run P w = .ok (.tuple #[]) (setBlock w m (.map es' clock)) ∧ MapS es' clock (L.filter (fun p => p.1 ≠ s)) := by
  have hck := run_checkKey (P := P) (w := w) hk (k := .string s) (by simp [IsKey]) es.isEmpty 9999
  rcases findNow_str s es.toList L 0 h.kv with ⟨h1, h2⟩ | ⟨j, e', v', h1, h2, h3, h4, h5⟩
  · rw [h2] at hs; cases hs
  · refine ⟨es.eraseIdxIfInBounds (0 + j), ?_, ?_⟩
    · simp [Builtin.delete_, run_underlying ht, MapKept.run_getObj_map hb, hck, run_findKey hk h1, Result.andThen, run_setObj_map _ hb, setBlock]
    · have hj : j < es.size := by
        have := (List.getElem?_eq_some_iff.1 h2).1
        simpa using this
      have hel : (es.eraseIdxIfInBounds (0 + j)).toList = es.toList.eraseIdx j := by
        simp [Array.eraseIdxIfInBounds, hj, Array.toList_eraseIdx]
      have hLj : L[j]? = some (s, v') := by
        have := congrArg (fun l => l[j]?) h.kv
        simp only [List.getElem?_map, h2, Option.map_some] at this
        cases hL : L[j]? with
        | none => rw [hL] at this; cases this
        | some p =>
          rw [hL] at this
          simp at this
          rw [h3, h4] at this
          obtain ⟨a, b⟩ := this
          cases p
          simp_all
      have hfil : ∀ (L : List (ByteArray × Value)) (j : Nat), (L.map (·.1)).Nodup → L[j]? = some (s, v') → L.eraseIdx j = L.filter (fun p => p.1 ≠ s) := by
        intro L
        induction L with
        | nil => intro j _ hj; simp at hj
        | cons p r ih =>
          intro j hn hj
          simp only [List.map_cons, List.nodup_cons] at hn
          cases j with
          | zero =>
            simp at hj
            subst hj
            simp only [List.eraseIdx_cons_zero, List.filter_cons]
            simp only [ne_eq, not_true_eq_false, decide_false, Bool.false_eq_true, if_false]
            symm
            rw [List.filter_eq_self]
            intro q hq
            have : q.1 ≠ s := fun e => hn.1 (List.mem_map.2 ⟨q, hq, e⟩)
            simpa using this
          | succ j =>
            simp only [List.eraseIdx_cons_succ, List.filter_cons]
            simp at hj
            have hne : p.1 ≠ s := fun e => hn.1 (List.mem_map.2 ⟨(s, v'), List.mem_of_getElem? hj, e.symm⟩)
            simp only [ne_eq, hne, not_false_eq_true, decide_true, if_true]
            rw [ih j hn.2 hj]
      refine ⟨?_, ?_, ?_, ?_⟩
      · rw [hel, ← hfil L j h.nd hLj]
        rw [ChangeMaps.map_eraseIdx, ChangeMaps.map_eraseIdx, h.kv]
      · exact (List.filter_sublist.map _).nodup h.nd
      · rw [hel]
        exact ((List.eraseIdx_sublist _ _).map _).nodup h.bn
      · intro x hx
        rw [hel] at hx
        exact h.lt x ((List.eraseIdx_sublist _ _).subset hx)

/-- 'delete' of a key that is there, as one step of a region that draws its order. -/
theorem step_delete (w : World) {ops : Array Oper} {o : Oper} {a : Act} {K : Act → World → Prop} {Q : Exit → Act → World → Prop} {E : Prop} (hgd : o.guard = none) (x y : Operand) (ks : TypeId)
    (ho : o.op = .call { callee := .builtin .delete, args := #[x, y], argTypes := #[t, ks] })
    (ht : P.underlying t = some (.map k e)) (hk : P.underlying k = some .string) (hb : w.heap[m]? = some (.map es clock)) (h : MapS es clock L) {s : ByteArray} {v : Value} (hs : assocS s L = some v)
    (hx : a.eval x = .map (some m)) (hy : a.eval y = .string s)
    (hK : ∀ es', MapS es' clock (L.filter (fun p => p.1 ≠ s)) → K (a.put o.dst (.tuple #[])) (setBlock w m (.map es' clock))) :
    if Region.wanted o (yielded ops a.tmps) = true then Oper.wp P o a w K Q else E := by
  have hw : Region.wanted o (yielded ops a.tmps) = true := by simp [Region.wanted, hgd]
  rw [if_pos hw]
  obtain ⟨es', hr, h1⟩ := run_delete_there ht hk hb h hs ks o.type
  unfold Oper.wp execOp
  simp only [ho, resolve, invoke, builtin, Sem.run_bind, Sem.run_pure, Result.andThen_ok, List.map_toArray, List.map_cons, List.map_nil, hx, hy, hr]
  exact hK es' h1

theorem heap_setBlock (w : World) (m : Nat) (o o' : Obj) (h : w.heap[m]? = some o) : (setBlock w m o').heap[m]? = some o' := (MapKept.heap_set h).1
theorem heap_setBlock_ne (w : World) (m k : Nat) (o' : Obj) (h : k ≠ m) : (setBlock w m o').heap[k]? = w.heap[k]? := by
  simp only [setBlock, Array.getElem?_setIfInBounds, if_neg (Ne.symm h)]
end
end Go.Proofs.Ytlnlgjifepjkbaa
