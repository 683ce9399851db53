/- What holds of any program: the frame 'Keep', slices that are read or owned, maps by strings. -/
import Derived.WalkKit
import Derived.WalkSpells
import Derived.WalkLawsBesides
import Derived.Deep.AppendSrc
import Derived.Lib.Hide
import Derived.ChangeMaps4
namespace Go.Proofs.Ytlnlgjifepjkbaa
open Go.RowKit
open Go.ChangeMaps (setBlock)

theorem lt_of_heap {w : World} {b : Nat} {o : Obj} (h : w.heap[b]? = some o) : b < w.heap.size := (Array.getElem?_eq_some_iff.1 h).1

theorem alloc_old (w : World) (o : Obj) (k : Nat) (h : k < w.heap.size) : (w.alloc o).heap[k]? = w.heap[k]? := (MapKept.heap_alloc w o).2 k h
theorem alloc_new (w : World) (o : Obj) : (w.alloc o).heap[w.heap.size]? = some o := (MapKept.heap_alloc w o).1
theorem alloc_at (w : World) (o : Obj) (n : Nat) (h : n = w.heap.size) : (w.alloc o).heap[n]? = some o := h ▸ alloc_new w o
/-- The world w' is as w was but for new blocks and the blocks of S. -/
structure Keep (S : Nat → Prop) (w w' : World) : Prop where
  os : w'.os = w.os
  tape : w'.tape = w.tape
  output : w'.output = w.output
  size : w.heap.size ≤ w'.heap.size
  block : ∀ k, k < w.heap.size → ¬ S k → w'.heap[k]? = w.heap[k]?

theorem Keep.refl (S : Nat → Prop) (w : World) : Keep S w w := ⟨rfl, rfl, rfl, Nat.le_refl _, fun _ _ _ => rfl⟩
theorem Keep.mono {S T : Nat → Prop} {a b : World} (h : Keep S a b) (hS : ∀ i, i < a.heap.size → S i → T i) : Keep T a b :=
  ⟨h.os, h.tape, h.output, h.size, fun k hk hn => h.block k hk fun hs => hn (hS k hk hs)⟩
theorem Keep.trans' {S T U : Nat → Prop} {a b c : World} (h : Keep S a b) (k : Keep T b c) (hS : ∀ i, i < a.heap.size → S i → U i) (hT : ∀ i, i < a.heap.size → T i → U i) : Keep U a c :=
  ⟨k.os.trans h.os, k.tape.trans h.tape, k.output.trans h.output, Nat.le_trans h.size k.size,
    fun i hi hn => (k.block i (Nat.lt_of_lt_of_le hi h.size) fun ht => hn (hT i hi ht)).trans (h.block i hi fun hs => hn (hS i hi hs))⟩
theorem Keep.trans {S : Nat → Prop} {a b c : World} (h : Keep S a b) (k : Keep S b c) : Keep S a c := h.trans' k (fun _ _ x => x) (fun _ _ x => x)
theorem Keep.alloc {S : Nat → Prop} {a b : World} (h : Keep S a b) (o : Obj) : Keep S a (b.alloc o) :=
  ⟨h.os, h.tape, h.output, by have := h.size; simp; omega, fun k hk hn => (alloc_old b o k (Nat.lt_of_lt_of_le hk h.size)).trans (h.block k hk hn)⟩
theorem Keep.drew {S : Nat → Prop} {a b : World} (h : Keep S a b) : Keep S a b.drew := ⟨h.os, h.tape, h.output, h.size, h.block⟩
theorem setCell_other (w : World) (p : Addr) (v : Value) (k : Nat) (h : k ≠ p.block) : (w.setCell p v).heap[k]? = w.heap[k]? := by
  simp only [World.setCell, Array.getElem?_modify]
  rw [if_neg (fun e => h e.symm)]
theorem setCell_at (w : World) (b i : Nat) (v : Value) {cs : Array Value} {t : TypeId} {fr : Nat × Nat} (h : w.heap[b]? = some (.cells cs t fr)) :
    (w.setCell ⟨b, i, none⟩ v).heap[b]? = some (.cells (cs.setIfInBounds i v) t fr) := by
  simp only [World.setCell, Array.getElem?_modify, if_true, h, Option.map_some]
  rfl
theorem Keep.setCell {S : Nat → Prop} {a b : World} (h : Keep S a b) (p : Addr) (v : Value) (hp : a.heap.size ≤ p.block ∨ S p.block) : Keep S a (b.setCell p v) :=
  ⟨h.os, h.tape, h.output, by have := h.size; simp; omega, fun k hk hn => (setCell_other b p v k (fun e => by
    rcases hp with hp | hp
    · omega
    · exact hn (e ▸ hp))).trans (h.block k hk hn)⟩
theorem Keep.setRow {S : Nat → Prop} {a b : World} (h : Keep S a b) (g : Nat) (cs : Array Value) (hp : a.heap.size ≤ g ∨ S g) : Keep S a (b.setRow g cs) :=
  ⟨h.os, h.tape, h.output, by have := h.size; simp; omega, fun k hk hn => (setRow_other b g k cs (fun e => by
    rcases hp with hp | hp
    · omega
    · exact hn (e ▸ hp))).trans (h.block k hk hn)⟩
theorem Keep.setBlock {S : Nat → Prop} {a b : World} (h : Keep S a b) (g : Nat) (o : Obj) (hp : a.heap.size ≤ g ∨ S g) : Keep S a (setBlock b g o) :=
  ⟨h.os, h.tape, h.output, by have := h.size; simp [ChangeMaps.setBlock]; omega, fun k hk hn => by
    have hne : g ≠ k := fun e => by
      rcases hp with hp | hp
      · omega
      · exact hn (e ▸ hp)
    simp only [ChangeMaps.setBlock, Array.getElem?_setIfInBounds, if_neg hne]
    exact h.block k hk hn⟩
theorem Keep.grown {S : Nat → Prop} {a b c : World} {row : Option Nat} (h : Keep S a b) (g : b.grownBy c row) (hp : ∀ k, row = some k → a.heap.size ≤ k ∨ S k) : Keep S a c :=
  ⟨g.os.trans h.os, g.tape.trans h.tape, g.output.trans h.output, Nat.le_trans h.size g.size, fun k hk hn => (g.block k (Nat.lt_of_lt_of_le hk h.size) (fun e => by
    rcases hp k e.symm with hp | hp
    · omega
    · exact hn hp)).trans (h.block k hk hn)⟩
theorem Keep.obj {S : Nat → Prop} {w w' : World} (h : Keep S w w') {b : Nat} {o : Obj} (hb : w.heap[b]? = some o) (hn : ¬ S b) : w'.heap[b]? = some o := (h.block b (lt_of_heap hb) hn).trans hb
theorem Keep.cell {S : Nat → Prop} {w w' : World} (h : Keep S w w') {p : Addr} {v : Value} (hb : w.cell? p = some v) (hn : ¬ S p.block) : w'.cell? p = some v :=
  (World.cell?_of_block (h.block p.block (block_lt_of_cell hb) hn)).trans hb
theorem Keep.below {S : Nat → Prop} {w w' : World} (h : Keep S w w') (B : Nat) (hB : B ≤ w.heap.size) (hS : ∀ k, k < B → ¬ S k) : Below B w w' :=
  ⟨h.os, h.tape, h.output, h.size, fun k hk => h.block k (Nat.lt_of_lt_of_le hk hB) (hS k hk)⟩
theorem Keep.ofBelow {w w' : World} (h : Below w.heap.size w w') (S : Nat → Prop) : Keep S w w' := ⟨h.os, h.tape, h.output, h.size, fun k hk _ => h.block k hk⟩

theorem cell_of {w : World} {b : Nat} {cs : Array Value} {t : TypeId} {fr : Nat × Nat} (h : w.heap[b]? = some (.cells cs t fr)) (i : Nat) : w.cell? ⟨b, i, none⟩ = cs[i]? := by simp [World.cell?, h]
theorem free_of {w : World} {b : Nat} {cs : Array Value} {t : TypeId} (h : w.heap[b]? = some (.cells cs t (0, 0))) (i : Nat) : w.frozen? ⟨b, i, none⟩ = false := by simp [World.frozen?, h]

/-! ### slices -/
/-- The cells xs (n elements of sz cells each) are what the slice value v reads as in w. -/
def Sl (w : World) (sz : Nat) (v : Value) (n : Nat) (xs : List Value) : Prop :=
  xs.length = n * sz ∧ ∃ a c, v = .slice a n c ∧ n ≤ c ∧ c ≤ maxLen ∧ (xs ≠ [] → ∃ b off, a = some ⟨b, off, none⟩ ∧ ∀ j u, xs[j]? = some u → w.cell? ⟨b, off + j, none⟩ = some u)
/-- The block that a slice value leads to. -/
def blk : Value → Option Nat
  | .slice (some a) _ _ => some a.block
  | _ => none
/-- A slice of the program's own: it is at the head of a block of its own, or has no room at all. -/
def Own (w : World) (e sz : Nat) (v : Value) (n : Nat) (xs : List Value) : Prop :=
  xs.length = n * sz ∧ ∃ a c, v = .slice a n c ∧ n ≤ c ∧ c ≤ maxLen ∧ (c = 0 ∨ ∃ g cur, a = some ⟨g, 0, none⟩ ∧ w.heap[g]? = some (.cells cur e (0, 0)) ∧ c * sz ≤ cur.size ∧ cur.toList.take (n * sz) = xs)
/-- The block that an owned slice has, if it has room. -/
def own : Value → Option Nat
  | .slice (some a) _ c => if c = 0 then none else some a.block
  | _ => none

theorem Own.len {w : World} {e sz : Nat} {v : Value} {n : Nat} {xs : List Value} (h : Own w e sz v n xs) : xs.length = n * sz := h.1
theorem Own.keep {w w' : World} {e sz : Nat} {v : Value} {n : Nat} {xs : List Value} {S : Nat → Prop} (h : Own w e sz v n xs) (k : Keep S w w') (hn : ∀ g, own v = some g → ¬ S g) : Own w' e sz v n xs := by
  obtain ⟨hl, a, c, rfl, hnc, hm, hr⟩ := h
  refine ⟨hl, a, c, rfl, hnc, hm, ?_⟩
  rcases hr with hr | ⟨g, cur, rfl, hg, r⟩
  · exact .inl hr
  · by_cases hc : c = 0
    · exact .inl hc
    · exact .inr ⟨g, cur, rfl, k.obj hg (hn g (by simp [own, hc])), r⟩
theorem Own.lt {w : World} {e sz : Nat} {v : Value} {n : Nat} {xs : List Value} (h : Own w e sz v n xs) {g : Nat} (hg : own v = some g) : g < w.heap.size := by
  obtain ⟨hl, a, c, rfl, hnc, hm, hr⟩ := h
  rcases hr with rfl | ⟨g', cur, rfl, hg', _⟩
  · cases a <;> simp [own] at hg
  · simp only [own] at hg
    split at hg
    · cases hg
    · obtain rfl : g' = g := by simpa using hg
      exact lt_of_heap hg'
/-- The block that is owned holds elements of its type. -/
theorem Own.elem {w : World} {e sz : Nat} {v : Value} {n : Nat} {xs : List Value} (h : Own w e sz v n xs) {g : Nat} (hg : own v = some g) : ∃ cur, w.heap[g]? = some (.cells cur e (0, 0)) := by
  obtain ⟨hl, a, c, rfl, hnc, hm, hr⟩ := h
  rcases hr with rfl | ⟨g', cur, rfl, hg', _⟩
  · cases a <;> simp [own] at hg
  · simp only [own] at hg
    split at hg
    · cases hg
    · obtain rfl : g' = g := by simpa using hg
      exact ⟨cur, hg'⟩
theorem Own.sl {w : World} {e sz : Nat} {v : Value} {n : Nat} {xs : List Value} (h : Own w e sz v n xs) : Sl w sz v n xs := by
  obtain ⟨hl, a, c, rfl, hnc, hm, hr⟩ := h
  refine ⟨hl, a, c, rfl, hnc, hm, fun hne => ?_⟩
  rcases hr with rfl | ⟨g, cur, rfl, hg, hsz, htake⟩
  · obtain rfl : n = 0 := by omega
    exact absurd (List.eq_nil_of_length_eq_zero (by simpa using hl)) hne
  · refine ⟨g, 0, rfl, fun j u hu => ?_⟩
    rw [Nat.zero_add, cell_of hg]
    rw [← htake, List.getElem?_take] at hu
    split at hu
    · simpa using hu
    · cases hu
theorem Sl.keep {w w' : World} {sz : Nat} {v : Value} {n : Nat} {xs : List Value} {S : Nat → Prop} (h : Sl w sz v n xs) (k : Keep S w w') (hn : ∀ g, blk v = some g → ¬ S g) : Sl w' sz v n xs := by
  obtain ⟨hl, a, c, rfl, hnc, hm, hr⟩ := h
  refine ⟨hl, a, c, rfl, hnc, hm, fun hne => ?_⟩
  obtain ⟨b, off, rfl, hc⟩ := hr hne
  exact ⟨b, off, rfl, fun j u hu => k.cell (hc j u hu) (hn b rfl)⟩
theorem own_blk {v : Value} {g : Nat} (h : own v = some g) : blk v = some g := by
  unfold own at h
  split at h
  · split at h
    · cases h
    · exact h
  · cases h
theorem Own.nil (w : World) (e sz : Nat) : Own w e sz (.slice none 0 0) 0 [] := ⟨by simp, none, 0, rfl, Nat.le_refl _, Nat.zero_le _, .inl rfl⟩
theorem Own.zero (w : World) (e sz : Nat) (a : Option Addr) : Own w e sz (.slice a 0 0) 0 [] := ⟨by simp, a, 0, rfl, Nat.le_refl _, Nat.zero_le _, .inl rfl⟩

section
variable {P : Program} {w : World}
theorem Src.ofSl {sz : Nat} {tx e' : TypeId} (hk : P.underlying tx = some (.slice e')) {x : Value} {n : Nat} {news : List Value} (h : Sl w sz x n news) (h1 : ∀ u ∈ news, u.oneCell' = true) : Src P sz tx x n news w := by
  obtain ⟨hl, a, c, rfl, hnc, hm, hr⟩ := h
  by_cases hne : news = []
  · subst hne
    have hz : n * sz = 0 := by simpa using hl.symm
    cases a with
    | none => exact ⟨.inl ⟨e', hk⟩, fun _ => rfl, by simp [Builtin.firstCells], by simp [Builtin.firstCells], hl, h1⟩
    | some a => exact ⟨.inl ⟨e', hk⟩, fun _ => rfl, by simp [Builtin.firstCells, hz, loadCells, loadCellsFrom], by simp [Builtin.firstCells, hz, loadCells, loadCellsFrom], hl, h1⟩
  · obtain ⟨b, off, rfl, hc⟩ := hr hne
    exact Src.ofSlice w hk ⟨b, off, none⟩ n c news hl (fun j u hu => by
      rw [show (⟨b, off, none⟩ : Addr).add j = ⟨b, off + j, none⟩ from by unfold Addr.add; split <;> simp_all]
      exact hc j u hu) h1

/-- append onto a slice of one's own, whatever is appended. -/
theorem run_append {t tx ty e : TypeId} {i : TypeInfo} {z : Value} {sz by' : Nat} (ht : P.underlying t = some (.slice e)) (hi : P.info? e = some i) (hz : i.zero = some z) (hsz : i.size = sz) (hby : i.bytes = by') (hzs : z.cells.size = sz)
    {v x : Value} {n m : Nat} {xs news : List Value} (hv : Own w e sz v n xs) (hx : Src P sz tx x m news w) (h63 : n + m ≤ maxLen) (hb : (n + m) * by' ≤ 140737488355328) :
    ∃ v' w', (Builtin.append_ #[t, tx] ty #[v, x]).run P w = .ok v' w' ∧ Own w' e sz v' (n + m) (xs ++ news) ∧ Keep (fun k => own v = some k ∧ 0 < m) w w' ∧
      (own v' = own v ∧ blk v' = blk v ∨ blk v' = some w.heap.size ∧ own v' = some w.heap.size) := by
  subst hsz
  subst hby
  obtain ⟨hl, a, c, rfl, hnc, hm, hr⟩ := hv
  by_cases hroom : n + m ≤ c
  · by_cases hm0 : news = []
    · -- nothing is stored
      subst hm0
      have hsz0 : m * i.size = 0 := by simpa using hx.newsLen.symm
      refine ⟨.slice a (n + m) c, w, ?_, ⟨by simp [hl, Nat.add_mul, hsz0], a, c, rfl, hroom, hm, ?_⟩, Keep.refl _ _, .inl ⟨by cases a <;> rfl, by cases a <;> rfl⟩⟩
      · rcases hx.kind with ⟨e', hk⟩ | hk <;> cases a <;> simp [Builtin.append_, run_underlying ht, run_underlying hk, sizeOf, typeInfo, hi, hx.len, hroom, hx.cells, storeCells]
      · rcases hr with hr | ⟨g, cur, rfl, hg, h2, h3⟩
        · exact .inl hr
        · exact .inr ⟨g, cur, rfl, hg, h2, by simp [Nat.add_mul, hsz0, h3]⟩
    · have hnl : 0 < news.length := List.length_pos_iff.2 hm0
      have hmpos : 0 < m := by
        rcases Nat.eq_zero_or_pos m with h | h
        · rw [hx.newsLen, h] at hnl; simp at hnl
        · exact h
      rcases hr with rfl | ⟨g, cur, rfl, hg, h2, h3⟩
      · omega
      · have hfit : n * i.size + news.length ≤ cur.size := by
          have : (n + m) * i.size ≤ c * i.size := Nat.mul_le_mul_right _ hroom
          rw [Nat.add_mul, ← hx.newsLen] at this
          omega
        have hst := run_storeCells_at P g (n * i.size) e news 0 cur w hg (by simpa using hfit) hx.one
        simp only [Nat.add_zero] at hst
        refine ⟨.slice (some ⟨g, 0, none⟩) (n + m) c, w.setRow g (cur.toList.take (n * i.size) ++ news ++ cur.toList.drop (n * i.size + news.length)).toArray, ?_,
          ⟨by rw [List.length_append, hl, hx.newsLen, Nat.add_mul], _, _, rfl, hroom, hm, .inr ⟨g, _, rfl, setRow_heap w g cur _ e _ hg, ?_, ?_⟩⟩, (Keep.refl _ _).setRow _ _ (.inr ⟨by simp [own]; omega, hmpos⟩), .inl ⟨rfl, rfl⟩⟩
        · rcases hx.kind with ⟨e', hk⟩ | hk <;> simp [Builtin.append_, run_underlying ht, run_underlying hk, sizeOf, typeInfo, hi, hx.len, hroom, hx.cells, Addr.add_lit, hst]
        · simp only [List.size_toArray, List.length_append, List.length_take, List.length_drop, Array.length_toList]
          omega
        · rw [Nat.add_mul, ← hx.newsLen, h3]
          simp only [List.append_assoc]
          rw [← List.append_assoc, ← hl, ← List.length_append]
          exact List.take_left
  · have hgt : c < n + m := by omega
    have hold : (Builtin.firstCells i.size n (.slice a n c)).run P w.drew = .ok xs.toArray w.drew := by
      rcases hr with rfl | ⟨g, cur, rfl, hg, h2, h3⟩
      · obtain rfl : n = 0 := by omega
        have hx0 : xs = [] := List.eq_nil_of_length_eq_zero (by simpa using hl)
        subst hx0
        cases a <;> simp [Builtin.firstCells, loadCells, loadCellsFrom]
      · refine run_firstCells_some w.drew i.size n _ n c xs hl (fun j u hu => ?_)
        rw [show (⟨g, 0, none⟩ : Addr).add j = ⟨g, j, none⟩ from by unfold Addr.add; split <;> simp_all]
        rw [World.cell?_drew, cell_of hg]
        rw [← h3, List.getElem?_take] at hu
        split at hu
        · simpa using hu
        · cases hu
    have hns := nextslicecap_le hgt
    have hrun := run_append_grow_src (P := P) w t tx ty e i z ht hi hz a n c xs hold x m news hx hgt (by simp only [maxLen] at h63; omega) (by
      have := Nat.mul_le_mul_right i.bytes hns
      rw [Nat.mul_assoc] at this
      omega)
    refine ⟨_, _, hrun, ⟨by rw [List.length_append, hl, hx.newsLen, Nat.add_mul], _, _, rfl, grownCap_ge w (n + m) c e, grownCap_le_maxLen w (n + m) c e h63, .inr ⟨w.heap.size, _, rfl, heap_alloc_new w.drew _, ?_, ?_⟩⟩, ((Keep.refl _ _).drew).alloc _, .inr ⟨rfl, ?_⟩⟩
    · have hge := grownCap_ge w (n + m) c e
      simp only [Array.size_append, List.size_toArray, size_zeroCells, List.length_append, hl, hx.newsLen]
      rw [hzs, ← Nat.add_mul, ← Nat.add_mul]
      exact Nat.mul_le_mul_right _ (by omega)
    · rw [show (n + m) * i.size = (xs ++ news).length from by rw [List.length_append, hl, hx.newsLen, Nat.add_mul]]
      simp only [Array.toList_append]
      exact List.take_left
    · simp [own]
      have := grownCap_ge w (n + m) c e
      omega
end
end Go.Proofs.Ytlnlgjifepjkbaa
