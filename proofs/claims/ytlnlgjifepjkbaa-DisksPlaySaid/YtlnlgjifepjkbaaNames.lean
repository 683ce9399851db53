/- The program's disk: Names. -/
import Derived.Test.YtlnlgjifepjkbaaDiskE
import Derived.Test.YtlnlgjifepjkbaaShelf
import Derived.Maps.RangeRun
namespace Go.Proofs.Ytlnlgjifepjkbaa
open Go.RowKit
open Go.ChangeMaps (setBlock)
set_option maxRecDepth 20000

section
variable {P : Program} {w : World}
theorem Src.ofNew {sz : Nat} {tx e' t : TypeId} (hk : P.underlying tx = some (.slice e')) {g n c : Nat} {cs : Array Value} {fr : Nat × Nat} (h : w.heap[g]? = some (.cells cs t fr)) (hl : cs.size = n * sz) (h1 : ∀ u ∈ cs.toList, u.oneCell' = true) :
    Src P sz tx (.slice (some ⟨g, 0, none⟩) n c) n cs.toList w :=
  Src.ofSlice w hk ⟨g, 0, none⟩ n c cs.toList (by simpa using hl) (fun j u hu => by
    rw [show (⟨g, 0, none⟩ : Addr).add j = ⟨g, j, none⟩ from by unfold Addr.add; split <;> simp_all]
    rw [cell_of h]
    simpa using hu) h1

theorem key_str {es : Array MapEntry} {clock : Nat} {L : List (ByteArray × Value)} (h : MapS es clock L) {e : MapEntry} (he : e ∈ es.toList) : ∃ nm, e.key = .string nm := by
  have : (e.key, e.val) ∈ L.map (fun p => (Value.string p.1, p.2)) := by rw [← h.kv]; exact List.mem_map.2 ⟨e, he, rfl⟩
  obtain ⟨p, _, hp⟩ := List.mem_map.1 this
  exact ⟨p.1, (congrArg Prod.fst hp).symm⟩
theorem mem_left {es : Array MapEntry} {seen : List Nat} {e : MapEntry} : e ∈ (leftOf es seen.toArray).toList ↔ e ∈ es.toList ∧ e.born ∉ seen := by
  simp [leftOf]
/-- The next entry of a map by strings that is walked over: nothing is left, or whichever the tape says. -/
theorem wpList_nextS {ops : Array Oper} {rest : List Oper} {o : Oper} {a : Act} {Q : Exit → Act → World → Prop} (hgd : o.guard = none) (x : Operand) (ho : o.op = .next x false)
    (r bm : Nat) (seen : List Nat) (es : Array MapEntry) (clock : Nat) (hx : a.eval x = .pointer (some ⟨r, 0, none⟩)) {L : List (ByteArray × Value)} (hM : MapS es clock L) (hbr : bm ≠ r)
    (hr : w.heap[r]? = some (.mapIter (some bm) clock seen.toArray clock)) (hb : w.heap[bm]? = some (.map es clock))
    (h0 : Hid ((leftOf es seen.toArray).size = 0) → wpList P ops Q rest (a.put o.dst (.tuple #[.bool false])) w)
    (h1 : ∀ e nm w1, Hid (e ∈ (leftOf es seen.toArray).toList) → Hid (e.key = .string nm) → Hid (w1.heap[r]? = some (.mapIter (some bm) clock (seen ++ [e.born]).toArray clock)) → Hid (Keep (fun k => k = r) w w1) →
      (Instr.entry (.pointer (some ⟨r, 0, none⟩))).run P w1 = .ok (.tuple #[.string nm, e.val]) w1 → wpList P ops Q rest (a.put o.dst (.tuple #[.bool true, .string nm, e.val])) w1) :
    wpList P ops Q (o :: rest) a w := by
  refine wpList_plain hgd fun K hK => ?_
  rcases run_next_at (P := P) w o.type r bm clock clock seen.toArray es clock hr hb hM.lt (Nat.le_refl _) with ⟨h2, h3⟩ | ⟨e, he, w1, hw, h3⟩
  · unfold Oper.wp
    simp [execOp, ho, hx, h3, Result.andThen]
    exact hK _ _ (h0 h2)
  · have hm := (mem_left.1 he).1
    obtain ⟨nm, hnm⟩ := key_str hM hm
    have hk : Keep (fun k => k = r) w w1 := by
      rcases hw with rfl | rfl
      · exact Keep.refl _ _
      · exact (Keep.refl _ _).drew
    have hr1 : w1.heap[r]? = some (.mapIter (some bm) clock seen.toArray clock) := by rcases hw with rfl | rfl <;> exact hr
    have hb1 : w1.heap[bm]? = some (.map es clock) := by rcases hw with rfl | rfl <;> exact hb
    have e1 : seen.toArray.push e.born = (seen ++ [e.born]).toArray := by simp
    have hr2 := heap_setBlock w1 r _ (.mapIter (some bm) clock (seen ++ [e.born]).toArray clock) hr1
    have hent := run_entry_at (P := P) (setBlock w1 r (.mapIter (some bm) clock (seen ++ [e.born]).toArray clock)) r bm clock seen.toArray es clock e (by rw [e1]; exact hr2) ((heap_setBlock_ne w1 r bm _ hbr).trans hb1) hm hM.bn
    rw [e1] at h3
    rw [hnm] at h3 hent
    unfold Oper.wp
    simp [execOp, ho, hx, h3, Result.andThen]
    exact hK _ _ (h1 e nm _ (Lib.hid he) (Lib.hid hnm) (Lib.hid hr2) (Lib.hid (hk.setBlock _ _ (.inr rfl))) hent)
theorem nodup_len {α : Type} [DecidableEq α] : ∀ {l m : List α}, l.Nodup → (∀ x ∈ l, x ∈ m) → l.length ≤ m.length
  | [], _, _, _ => Nat.zero_le _
  | x :: r, m, hn, hs => by
    have hn' := List.nodup_cons.1 hn
    have hx := hs x (.head _)
    have ih := nodup_len (l := r) (m := m.erase x) hn'.2 (fun y hy => (List.mem_erase_of_ne (fun e => hn'.1 (by rw [← e]; exact hy))).2 (hs y (.tail _ hy)))
    rw [List.length_erase_of_mem hx] at ih
    have : 0 < m.length := List.length_pos_of_mem hx
    simp only [List.length_cons]
    omega
end

def strv (l : List ByteArray) : List Value := l.map Value.string
@[simp] theorem strv_length (l : List ByteArray) : (strv l).length = l.length := by simp [strv]
theorem strv_one (l : List ByteArray) : ∀ u ∈ strv l, u.oneCell' = true := by
  intro u hu
  obtain ⟨c, _, rfl⟩ := List.mem_map.1 hu
  rfl
theorem info_str : (Try.prog.info? 9).map (fun i => (i.zero, i.size, i.bytes)) = some (some (.string ByteArray.empty), 1, 16) := by kernel_rfl

/-- append of one string to one's own strings. -/
theorem wpList_appS (w : World) {ops : Array Oper} {rest : List Oper} {o : Oper} {a : Act} {Q : Exit → Act → World → Prop} (hgd : o.guard = none) (s x : Operand)
    (ho : o.op = .call { callee := .builtin .append, args := #[s, x], argTypes := #[53, 53] })
    (v : Value) (g : Nat) (l : List ByteArray) (nm : ByteArray) (hs : a.eval s = v) (hx : a.eval x = .slice (some ⟨g, 0, none⟩) 1 1) (hv : Own w 9 1 v l.length (strv l)) (hg : w.heap[g]? = some (.cells #[.string nm] 9 (0, 0)))
    (hb : l.length ≤ 1000000)
    (h : ∀ a' c' w', Own w' 9 1 (.slice a' (l.length + 1) c') (l.length + 1) (strv (l ++ [nm])) → Keep (fun k => own v = some k ∧ 0 < 1) w w' →
      (own (.slice a' (l.length + 1) c') = own v ∧ blk (.slice a' (l.length + 1) c') = blk v ∨ blk (.slice a' (l.length + 1) c') = some w.heap.size ∧ own (.slice a' (l.length + 1) c') = some w.heap.size) →
      wpList Try.prog ops Q rest (a.put o.dst (.slice a' (l.length + 1) c')) w') : wpList Try.prog ops Q (o :: rest) a w := by
  obtain ⟨i, hi, hz0, hz1, hz2⟩ := info_parts info_str
  have hsrc := Src.ofNew (P := Try.prog) (sz := 1) (c := 1) (n := 1) Try.underlying53 hg rfl (by intro u hu; simp at hu; subst hu; rfl)
  refine wpList_app w hgd s x _ _ ho Try.underlying53 hi hz0 hz1 hz2 rfl v _ l.length 1 (strv l) _ hs hx hv hsrc (by unfold maxLen; omega) (by omega) ?_
  have : strv (l ++ [nm]) = strv l ++ [Value.string nm] := by simp [strv]
  rw [this] at h
  exact h

def lenV : Value → Nat
  | .slice _ n _ => n
  | _ => 0

/-- What holds at the head of each round: the entries that are done, and their keys. -/
def NInv (es : Array MapEntry) (clock bm r : Nat) (W : World) (v : Value) (wr : World) : Prop :=
  ∃ (done : List MapEntry) (l : List ByteArray) (a : Option Addr) (c : Nat), v = .slice a l.length c ∧ Own wr 9 1 v l.length (strv l) ∧ done.map (·.key) = strv l ∧ (∀ e ∈ done, e ∈ es.toList) ∧ (done.map (·.born)).Nodup ∧
    wr.heap[r]? = some (.mapIter (some bm) clock (done.map (·.born)).toArray clock) ∧ Keep (fun k => k = r) W wr ∧ ∀ g, blk v = some g → W.heap.size ≤ g

theorem born_inj : ∀ {l : List MapEntry}, (l.map (·.born)).Nodup → ∀ {x y : MapEntry}, x ∈ l → y ∈ l → x.born = y.born → x = y
  | [], _, _, _, h, _, _ => by cases h
  | z :: r, hn, x, y, hx, hy, e => by
    simp only [List.map_cons, List.nodup_cons] at hn
    cases hx with
    | head =>
      cases hy with
      | head => rfl
      | tail _ hy => exact absurd (List.mem_map.2 ⟨y, hy, e.symm⟩) hn.1
    | tail _ hx =>
      cases hy with
      | head => exact absurd (List.mem_map.2 ⟨x, hx, e⟩) hn.1
      | tail _ hy => exact born_inj hn.2 hx hy e
theorem nodup_of_map {α β : Type} (f : α → β) {l : List α} (h : (l.map f).Nodup) : l.Nodup := by
  rw [List.nodup_iff_pairwise_ne, List.pairwise_map] at h
  rw [List.nodup_iff_pairwise_ne]
  exact h.imp fun hab e => hab (congrArg f e)
/-- Nothing is left: all have been done. -/
theorem all_done {es : Array MapEntry} {done : List MapEntry} (hn : (es.toList.map (·.born)).Nodup) (hd : (done.map (·.born)).Nodup) (hsub : ∀ e ∈ done, e ∈ es.toList) (h0 : (leftOf es (done.map (·.born)).toArray).size = 0) : done.Perm es.toList := by
  refine (List.perm_ext_iff_of_nodup (nodup_of_map _ hd) (nodup_of_map _ hn)).2 fun e => ⟨hsub e, fun he => ?_⟩
  by_cases hb : e.born ∈ done.map (·.born)
  · obtain ⟨x, hx, hxb⟩ := List.mem_map.1 hb
    have := born_inj hn (hsub x hx) he hxb
    exact this ▸ hx
  · exfalso
    have := (mem_left (es := es) (seen := done.map (·.born))).2 ⟨he, hb⟩
    have hl : (leftOf es (done.map (·.born)).toArray).toList.length = 0 := by simpa using h0
    rw [List.eq_nil_of_length_eq_zero hl] at this
    cases this

section
variable {bd bm : Nat} {fs : List PF} {fuse : Int} {dead : Bool} {w : World}

theorem ninv_step {es : Array MapEntry} {clock r : Nat} {W wr w2 : World} {done : List MapEntry} {l : List ByteArray} {a a' : Option Addr} {c c' : Nat} {e : MapEntry} {nm : ByteArray} {fr : World}
    (hr : W.heap.size = r + 1) (hbr : bm ≠ r) (hown : Own wr 9 1 (.slice a l.length c) l.length (strv l)) (hkey : done.map (·.key) = strv l) (hsub : ∀ e ∈ done, e ∈ es.toList) (hnd : (done.map (·.born)).Nodup) (hk : Keep (fun k => k = r) W wr) (hfresh : ∀ g, blk (.slice a l.length c) = some g → W.heap.size ≤ g)
    (he : e ∈ (leftOf es (done.map (·.born)).toArray).toList) (hnm : e.key = .string nm) (hfr : Keep (fun k => k = r) wr fr) (hfrr : fr.heap[r]? = some (.mapIter (some bm) clock (done.map (·.born) ++ [e.born]).toArray clock))
    (h1 : Own w2 9 1 (.slice a' (l.length + 1) c') (l.length + 1) (strv (l ++ [nm]))) (h2 : Keep (fun k => own (.slice a l.length c) = some k ∧ 0 < 1) fr w2)
    (h3 : own (.slice a' (l.length + 1) c') = own (.slice a l.length c) ∧ blk (.slice a' (l.length + 1) c') = blk (.slice a l.length c) ∨ blk (.slice a' (l.length + 1) c') = some fr.heap.size ∧ own (.slice a' (l.length + 1) c') = some fr.heap.size) :
    NInv es clock bm r W (.slice a' (l.length + 1) c') w2 := by
  have hm := mem_left.1 he
  have hlen : l.length + 1 = (l ++ [nm]).length := by simp
  refine ⟨done ++ [e], l ++ [nm], a', c', by simp, by simpa using h1, by simp [hkey, hnm, strv], ?_, ?_, ?_, ?_, ?_⟩
  · intro x hx
    rcases List.mem_append.1 hx with hx | hx
    · exact hsub x hx
    · simp at hx
      exact hx ▸ hm.1
  · rw [List.map_append, List.nodup_append]
    refine ⟨hnd, by simp, ?_⟩
    intro x hx y hy exy
    simp at hy
    subst hy
    subst exy
    exact hm.2 hx
  · have hne : ¬ (own (.slice a l.length c) = some r ∧ 0 < 1) := fun h => by
      have := hfresh r (own_blk h.1)
      omega
    have := h2.obj hfrr hne
    simpa using this
  · refine (hk.trans hfr).trans' h2 (fun _ _ h => h) (fun k hk' h => ?_)
    have := hfresh k (own_blk h.1)
    omega
  · intro g hg
    rcases h3 with h3 | h3
    · exact hfresh g (h3.2 ▸ hg)
    · rw [h3.1] at hg
      have := (hk.trans hfr).size
      simp at hg
      omega

open Go.Sort in
theorem putRow_at {enc : List UInt8 → Value} {w : World} {g : Nat} {cur : Array Value} {e : TypeId} (hg : w.heap[g]? = some (.cells cur e (0, 0))) (d : Array (List UInt8)) (hd : d.size ≤ cur.size) :
    (putRow enc w g 0 d).heap[g]? = some (.cells (putCells enc 0 d cur) e (0, 0)) ∧ (putCells enc 0 d cur).size = cur.size ∧ (putCells enc 0 d cur).toList.take d.size = d.toList.map enc ∧ ∀ k, k ≠ g → (putRow enc w g 0 d).heap[k]? = w.heap[k]? := by
  refine ⟨?_, by simp [putCells], ?_, ?_⟩
  · simp only [putRow, mapBlock, Array.getElem?_modify, if_true, hg, Option.map_some, onCells]
  · apply List.ext_getElem?
    intro i
    simp only [List.getElem?_take, List.getElem?_map, Array.getElem?_toList]
    by_cases hi : i < d.size
    · simp only [hi, if_true, putCells, Array.getElem?_mapIdx]
      have : i < cur.size := by omega
      simp [this, hi]
    · simp [hi]
  · intro k hk
    simp only [putRow, mapBlock, Array.getElem?_modify, if_neg (Ne.symm hk)]

theorem sort_own {a : Option Addr} {c : Nat} {l : List ByteArray} (h : Own w 9 1 (.slice a l.length c) l.length (strv l)) (hl : l.length ≤ 1000000) :
    Calls Try.prog 48 #[.slice a l.length c] w fun e w' => e = .returned (.tuple #[]) ∧ ∃ l', Own w' 9 1 (.slice a l.length c) l.length (strv l') ∧ l'.Perm l ∧ l'.Pairwise (fun x y => x.toList ≤ y.toList) ∧ Keep (fun k => own (.slice a l.length c) = some k) w w' := by
  by_cases hn : l.length = 0
  · have hl0 := List.eq_nil_of_length_eq_zero hn
    subst hl0
    refine (Try.slices_Sort_string_none a c w).mono ?_
    rintro e w' ⟨rfl, rfl⟩
    exact ⟨rfl, [], h, .refl _, by simp, Keep.refl _ _⟩
  · obtain ⟨hlen, a', c', hv, hnc, hm, hr⟩ := h
    cases hv
    rcases hr with rfl | ⟨g, cur, rfl, hg, hs, ht⟩
    · omega
    · have hss : (l.map (·.data.toList)).length = l.length := by simp
      have hH : Go.Sort.Holds encStr w g 0 (l.map (·.data.toList)).toArray := by
        intro j hj
        have hj' : j < l.length := by simpa using hj
        refine ⟨?_, free_of hg _⟩
        rw [Nat.zero_add, cell_of hg]
        have h1 : (cur.toList.take (l.length * 1))[j]? = some (.string l[j]) := by rw [ht]; simp [strv, hj']
        rw [List.getElem?_take] at h1
        simp only [Nat.mul_one, hj', if_true, Array.getElem?_toList] at h1
        rw [h1]
        have h2 : (l.map (·.data.toList)).toArray[j]! = l[j].data.toList := by simp [hj']
        rw [h2]
      have hS := Try.slices_Sort_string g 0 c (l.map (·.data.toList)) w hH (lt_of_heap hg) (by rw [hss]; omega)
      rw [hss] at hS
      refine hS.mono ?_
      rintro e w' ⟨rfl, q, os, rfl⟩
      have hsz : ((l.map (·.data.toList)).mergeSort fun x y => decide (x ≤ y)).length = l.length := by rw [List.length_mergeSort, hss]
      have hg' : (Go.Sort.ahead w q).heap[g]? = some (.cells cur 9 (0, 0)) := hg
      have hcs : l.length ≤ cur.size := by omega
      obtain ⟨p1, p2, p3, p4⟩ := putRow_at (enc := encStr) hg' ((l.map (·.data.toList)).mergeSort fun x y => decide (x ≤ y)).toArray (by simpa [hsz] using hcs)
      have hperm := List.mergeSort_perm (l.map (·.data.toList)) (fun x y => decide (x ≤ y))
      have hsorted := List.pairwise_mergeSort (le := fun (x y : List UInt8) => decide (x ≤ y)) (fun a b c h1 h2 => by simp at h1 h2 ⊢; exact List.le_trans h1 h2) (fun a b => by simp; exact List.le_total a b) (l.map (·.data.toList))
      generalize ((l.map (·.data.toList)).mergeSort fun x y => decide (x ≤ y)) = ss at *
      have hk : Keep (fun k => own (.slice (some ⟨g, 0, none⟩) l.length c) = some k) w (Go.Sort.grow (Go.Sort.putRow encStr (Go.Sort.ahead w q) g 0 ss.toArray) os) := by
        refine ⟨rfl, rfl, rfl, by simp, fun k hk hn => ?_⟩
        rw [Go.Sort.heap_grow_old _ _ (by simpa using hk)]
        refine p4 k (fun e => hn ?_)
        subst e
        simp [own]
        omega
      have hOwn : Own (Go.Sort.grow (Go.Sort.putRow encStr (Go.Sort.ahead w q) g 0 ss.toArray) os) 9 1 (.slice (some ⟨g, 0, none⟩) l.length c) l.length (strv (ss.map fun x => ⟨x.toArray⟩)) := by
        refine ⟨by simp [hsz], some ⟨g, 0, none⟩, c, rfl, hnc, hm, Or.inr ⟨g, Go.Sort.putCells encStr 0 ss.toArray cur, rfl, ?_, ?_, ?_⟩⟩
        · rw [Go.Sort.heap_grow_old _ _ (by simpa using lt_of_heap hg)]
          exact p1
        · rw [p2]; exact hs
        · rw [Nat.mul_one, ← hsz]
          have : ss.toArray.size = ss.length := by simp
          rw [← this, p3]
          simp only [strv, List.map_map]
          rfl
      refine ⟨rfl, ss.map fun x => ⟨x.toArray⟩, hOwn, ?_, ?_, hk⟩
      · have := hperm.map fun x : List UInt8 => (⟨x.toArray⟩ : ByteArray)
        rw [List.map_map] at this
        have h3 : l.map ((fun x : List UInt8 => (⟨x.toArray⟩ : ByteArray)) ∘ fun x : ByteArray => x.data.toList) = l := by
          conv => rhs; rw [← List.map_id l]
          apply List.map_congr_left
          intro x _
          simp
        rw [h3] at this
        exact this
      · rw [List.pairwise_map]
        refine hsorted.imp fun {x y} hxy => ?_
        simp only [ByteArray.toList_eq]
        simpa using hxy

theorem strv_inj {l m : List ByteArray} (h : (strv l).Perm (strv m)) : l.Perm m := by
  have := h.map fun v : Value => match v with | .string s => s | _ => ByteArray.empty
  simpa [strv, List.map_map, Function.comp_def] using this
theorem names_eq {l : List ByteArray} {L : List F} (hs : Sorted L) (hp : l.Perm (L.map (·.name))) (hl : l.Pairwise (fun x y => x.toList ≤ y.toList)) : l = L.map (·.name) := by
  refine List.Perm.eq_of_pairwise (le := fun x y => x.toList ≤ y.toList) (fun a b _ _ h1 h2 => ?_) hl ?_ hp
  · have := List.le_antisymm h1 h2
    exact toList_inj.1 this
  · rw [List.pairwise_map]
    exact hs.imp fun h => List.le_of_lt h

/-- What Names answers. -/
def NamesPost (w : World) (L : List ByteArray) (e : Ending) (w' : World) : Prop :=
  ∃ a, e = .returned (.slice a L.length L.length) ∧ Own w' 9 1 (.slice a L.length L.length) L.length (strv L) ∧ Keep (fun _ => False) w w' ∧ ∀ g, blk (.slice a L.length L.length) = some g → w.heap.size ≤ g

theorem clipS (a : Option Addr) (n c : Nat) (w : World) (hn : n ≤ c) (hc : c ≤ maxLen) :
    Calls Try.prog 49 #[.slice a n c] w fun e w' => e = .returned (.slice a n n) ∧ w = w' := by
  unfold maxLen at hc
  go_enter Try.func49, Try.ntmps49
  go_wp2
  all_goals (go_ret; exact ⟨by cases a <;> simp [Addr.add], rfl⟩)

theorem range_run {es : Array MapEntry} {clock : Nat} (hb : w.heap[bm]? = some (.map es clock)) : (Instr.range 44 (.map (some bm))).run Try.prog w = .ok (.pointer (some ⟨w.heap.size, 0, none⟩)) (w.alloc (.mapIter (some bm) clock #[] clock)) := by
  simp [Instr.range, run_underlying Try.underlying44, MapKept.run_getObj_map hb, Result.andThen, newObj]
  rfl

theorem left_more {es : Array MapEntry} {clock : Nat} {L : List (ByteArray × Value)} (hM : MapS es clock L) {done : List MapEntry} (hn : (done.map (·.born)).Nodup) (hs : ∀ e ∈ done, e ∈ es.toList) {e : MapEntry} (he : e ∈ (leftOf es (done.map (·.born)).toArray).toList) : done.length < es.size := by
  have hm := mem_left.1 he
  have h1 : (e.born :: done.map (·.born)).Nodup := List.nodup_cons.2 ⟨hm.2, hn⟩
  have := nodup_len h1 (m := es.toList.map (·.born)) (fun x hx => by
    cases hx with
    | head => exact List.mem_map.2 ⟨e, hm.1, rfl⟩
    | tail _ hx =>
      obtain ⟨y, hy, rfl⟩ := List.mem_map.1 hx
      exact List.mem_map.2 ⟨y, hs y hy, rfl⟩)
  simp at this
  omega

theorem names_close {d : D} {es : Array MapEntry} {clock : Nat} {wr w2 : World} {done : List MapEntry} {l l' : List ByteArray} {a : Option Addr} {c : Nat}
    (hes : es.size = fs.length) (hdl : done.length = l.length) (hM : MapS es clock (fs.map ent)) (hp : (fs.map PF.abs).Perm d.fs) (hs : Sorted d.fs) (hkey : done.map (·.key) = strv l) (hsub : ∀ e ∈ done, e ∈ es.toList) (hnd : (done.map (·.born)).Nodup)
    (hz : (leftOf es (done.map (·.born)).toArray).size = 0) (hk : Keep (fun k => k = w.heap.size) (w.alloc (.mapIter (some bm) clock #[] clock)) wr) (hfr : ∀ g, blk (.slice a l.length c) = some g → (w.alloc (.mapIter (some bm) clock #[] clock)).heap.size ≤ g)
    (h1 : Own w2 9 1 (.slice a l.length c) l.length (strv l')) (h2 : l'.Perm l) (h3 : l'.Pairwise (fun x y => x.toList ≤ y.toList)) (h4 : Keep (fun k => own (.slice a l.length c) = some k) wr w2) :
    NamesPost w (d.fs.map (·.name)) (.returned (.slice a l.length l.length)) w2 := by
  have hall := all_done hM.bn hnd hsub hz
  have h5 : (strv l).Perm (strv (fs.map (·.name))) := by
    rw [← hkey]
    have := hall.map (·.key)
    have h6 : es.toList.map (·.key) = strv (fs.map (·.name)) := by
      have := congrArg (List.map Prod.fst) hM.kv
      simp only [List.map_map] at this
      exact this.trans (by simp [strv, ent, Function.comp_def])
    rw [h6] at this
    exact this
  have h7 : (fs.map (·.name)).Perm (d.fs.map (·.name)) := by
    have := hp.map F.name
    rw [List.map_map] at this
    exact this
  have h8 := names_eq hs (h2.trans ((strv_inj h5).trans h7)) h3
  have h9 : l.length = (d.fs.map (·.name)).length := by rw [← h8]; exact h2.length_eq.symm
  subst h8
  have hwk : Keep (fun k => k = w.heap.size) w wr := (((Keep.refl (fun k => k = w.heap.size) w).alloc _).trans hk)
  have hbl : ∀ g, blk (.slice a l.length l.length) = some g → w.heap.size ≤ g := fun g hg => by
    have := hfr g (by cases a <;> first | (simp [blk] at hg; done) | simpa [blk] using hg)
    simp at this
    omega
  refine ⟨a, by rw [h9], ?_, hwk.trans' h4 (fun k hk e => ?_) (fun k hk e => ?_), by rw [← h9]; exact hbl⟩
  · rw [← h9]
    exact h1.clip
  · omega
  · have := hfr k (own_blk e)
    simp at this
    omega

set_option maxHeartbeats 1000000 in
theorem names_abs {S : Nat → Prop} {d : D} (h : IsDisk w bd S d) :
    Calls Try.prog 29 #[.pointer (some ⟨bd, 0, none⟩)] w (NamesPost w (d.fs.map (·.name))) := by
  obtain ⟨bm, fs, h1, hp, hs, rfl⟩ := h
  obtain ⟨es, clock, hb, hM⟩ := h1.map
  have h0 := h1.c0
  have hr := range_run hb
  have hlt := lt_of_heap hb
  have HB : Hid ((w.alloc (.mapIter (some bm) clock #[] clock)).heap[bm]? = some (.map es clock)) := (alloc_old w _ bm hlt).trans hb
  have HI : Hid ((w.alloc (.mapIter (some bm) clock #[] clock)).heap[w.heap.size]? = some (.mapIter (some bm) clock #[] clock)) := alloc_new w _
  have HM := Lib.hid hM
  have H1 := Lib.hid h1
  have HP := Lib.hid hp
  have HS := Lib.hid hs
  clear hb hM h1 hp hs
  go_enter Try.func29, Try.ntmps29
  go_wp2_with (go_at_call 34; refine (there_some _ _ _ h0).mono ?_; rintro e w' ⟨rfl, rfl⟩)
  go_loopw [2] (fun v wr => NInv es clock bm w.heap.size (w.alloc (.mapIter (some bm) clock #[] clock)) v wr) (fun v _ => es.size - lenV v)
  case atStart => exact ⟨[], [], none, 0, rfl, Own.nil _ _ _, rfl, by simp, by simp, HI.out, Keep.refl _ _, by simp [blk]⟩
  case round =>
    obtain ⟨done, l, a, c, rfl, hown, hkey, hsub, hnd, hit, hk, hfr⟩ := hrel
    have hbr : bm ≠ w.heap.size := by omega
    have hbm : Hid (wr.heap[bm]? = some (.map es clock)) := hk.obj HB.out (by simpa using hbr)
    have hdl : done.length = l.length := by have := congrArg List.length hkey; simpa using this
    have hes : es.size = fs.length := by have := HM.out.size; simpa using this
    have hsub' : ∀ x ∈ done.map (·.born), x ∈ es.toList.map (·.born) := fun x hx => by
      obtain ⟨e, he, rfl⟩ := List.mem_map.1 hx
      exact List.mem_map.2 ⟨e, hsub e he, rfl⟩
    have hle := nodup_len hnd hsub'
    simp only [List.length_map, Array.length_toList, hdl, hes] at hle
    have hfew := H1.out.few
    have hl6 : l.length ≤ 1000000 := by omega
    have HW := Lib.hid hown
    have HK := Lib.hid hkey
    have HU := Lib.hid hsub
    have HN := Lib.hid hnd
    have HT := Lib.hid hit
    have HE := Lib.hid hk
    have HF := Lib.hid hfr
    have HL := Lib.hid hdl
    have HZ := Lib.hid hes
    clear hown hkey hsub hnd hit hk hfr hsub' hdl hes
    have hOr : Hid (∀ g, own (.slice a l.length c) = some g → ¬ g = w.heap.size) := fun g hg e => by
      have := HF.out g (own_blk hg)
      simp at this
      omega
    have hcc : l.length ≤ c ∧ c ≤ maxLen := by
      obtain ⟨_, _, _, e, h1, h2, _⟩ := HW.out
      cases e
      exact ⟨h1, h2⟩
    obtain ⟨hc1, hc2⟩ := hcc
    have HC := Lib.hid hc2
    have hlm : l.length < es.size ∨ l.length = es.size := by have := HZ.out; omega
    clear hc2
    go_wp2_with (first | (refine wpList_nextS rfl (.tmp 11) rfl w.heap.size bm _ es clock rfl HM.out hbr HT.out hbm.out (fun hz => ?_) (fun e nm w1 q1 q2 q3 q4 hent => ?_)) | (at_builtin; refine wpList_appS _ rfl (.tmp 16) (.tmp 18) rfl (.slice a l.length c) w1.heap.size l nm rfl rfl (HW.out.keep (q4.out.alloc _) hOr.out) (alloc_new _ _) hl6 ?_; intro a' c' w2 k1 k2 k3; have K1 := Lib.hid k1; have K2 := Lib.hid k2; have K3 := Lib.hid k3; clear k1 k2 k3) | (go_at_call 48; refine (sort_own HW.out hl6).mono ?_; rintro e w2 ⟨rfl, l', k1, k2, k3, k4⟩; have K1 := Lib.hid k1; have K2 := Lib.hid k2; have K3 := Lib.hid k3; have K4 := Lib.hid k4; clear k1 k2 k3 k4) | (go_at_call 49; refine (clipS _ _ _ _ hc1 HC.out).mono ?_; rintro e w3 ⟨rfl, rfl⟩))
    · go_ret
      exact names_close HZ.out HL.out HM.out HP.out HS.out HK.out HU.out HN.out hz.out HE.out HF.out K1.out K2.out K3.out K4.out
    · go_roundw
      case rel => exact ninv_step (by simp) hbr HW.out HK.out HU.out HN.out HE.out HF.out q1.out q2.out (q4.out.alloc _) (by rw [alloc_old _ _ _ (lt_of_heap q3.out)]; exact q3.out) K1.out K2.out K3.out
      case measure =>
        have := left_more HM.out HN.out HU.out q1.out
        have := HL.out
        simp [lenV]
        omega
end
end Go.Proofs.Ytlnlgjifepjkbaa
