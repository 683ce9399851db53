/- 'append' at the operation, at bytes and at any element. -/
import Derived.Test.YtlnlgjifepjkbaaInst
import Derived.Deep.RegionLaw
namespace Go.Proofs.Ytlnlgjifepjkbaa
open Go.RowKit

theorem Own.form {w : World} {e sz : Nat} {v : Value} {n : Nat} {xs : List Value} (h : Own w e sz v n xs) : ∃ a c, v = .slice a n c := by
  obtain ⟨_, a, c, hv, _⟩ := h
  exact ⟨a, c, hv⟩
theorem Sl.form {w : World} {sz : Nat} {v : Value} {n : Nat} {xs : List Value} (h : Sl w sz v n xs) : ∃ a c, v = .slice a n c := by
  obtain ⟨_, a, c, hv, _⟩ := h
  exact ⟨a, c, hv⟩

theorem wp_app {P : Program} (w : World) {o : Oper} {a : Act} {K : Act → World → Prop} {Q : Exit → Act → World → Prop} (s x : Operand) (t tx : TypeId)
    (ho : o.op = .call { callee := .builtin .append, args := #[s, x], argTypes := #[t, tx] })
    {e : TypeId} {i : TypeInfo} {z : Value} {sz by' : Nat} (ht : P.underlying t = some (.slice e)) (hi : P.info? e = some i) (hz : i.zero = some z) (hsz : i.size = sz) (hby : i.bytes = by') (hzs : z.cells.size = sz)
    (v xv : Value) (n m : Nat) (xs news : List Value) (hs : a.eval s = v) (hx : a.eval x = xv) (hv : Own w e sz v n xs) (hsrc : Src P sz tx xv m news w)
    (h63 : n + m ≤ maxLen) (hb : (n + m) * by' ≤ 140737488355328)
    (h : ∀ a' c' w', Own w' e sz (.slice a' (n + m) c') (n + m) (xs ++ news) → Keep (fun k => own v = some k ∧ 0 < m) w w' →
      (own (.slice a' (n + m) c') = own v ∧ blk (.slice a' (n + m) c') = blk v ∨ blk (.slice a' (n + m) c') = some w.heap.size ∧ own (.slice a' (n + m) c') = some w.heap.size) → K (a.put o.dst (.slice a' (n + m) c')) w') : o.wp P a w K Q := by
  obtain ⟨v', w', hr, h1, h2, h3⟩ := run_append (ty := o.type) ht hi hz hsz hby hzs hv hsrc h63 hb
  obtain ⟨a', c', rfl⟩ := h1.form
  unfold Oper.wp execOp
  simp only [ho, resolve, invoke, builtin, Sem.run_bind, Sem.run_pure, Result.andThen_ok, List.map_toArray, List.map_cons, List.map_nil, hs, hx, hr]
  exact h a' c' w' h1 h2 h3
theorem wpList_app {P : Program} (w : World) {ops : Array Oper} {rest : List Oper} {o : Oper} {a : Act} {Q : Exit → Act → World → Prop} (hgd : o.guard = none) (s x : Operand) (t tx : TypeId)
    (ho : o.op = .call { callee := .builtin .append, args := #[s, x], argTypes := #[t, tx] })
    {e : TypeId} {i : TypeInfo} {z : Value} {sz by' : Nat} (ht : P.underlying t = some (.slice e)) (hi : P.info? e = some i) (hz : i.zero = some z) (hsz : i.size = sz) (hby : i.bytes = by') (hzs : z.cells.size = sz)
    (v xv : Value) (n m : Nat) (xs news : List Value) (hs : a.eval s = v) (hx : a.eval x = xv) (hv : Own w e sz v n xs) (hsrc : Src P sz tx xv m news w)
    (h63 : n + m ≤ maxLen) (hb : (n + m) * by' ≤ 140737488355328)
    (h : ∀ a' c' w', Own w' e sz (.slice a' (n + m) c') (n + m) (xs ++ news) → Keep (fun k => own v = some k ∧ 0 < m) w w' →
      (own (.slice a' (n + m) c') = own v ∧ blk (.slice a' (n + m) c') = blk v ∨ blk (.slice a' (n + m) c') = some w.heap.size ∧ own (.slice a' (n + m) c') = some w.heap.size) → wpList P ops Q rest (a.put o.dst (.slice a' (n + m) c')) w') : wpList P ops Q (o :: rest) a w :=
  wpList_plain hgd fun _ hK => wp_app w s x t tx ho ht hi hz hsz hby hzs v xv n m xs news hs hx hv hsrc h63 hb fun a' c' w' h1 h2 h3 => hK _ _ (h a' c' w' h1 h2 h3)

theorem step_app {P : Program} (w : World) {ops : Array Oper} {o : Oper} {a : Act} {K : Act → World → Prop} {Q : Exit → Act → World → Prop} {E : Prop} (hgd : o.guard = none) (s x : Operand) (t tx : TypeId)
    (ho : o.op = .call { callee := .builtin .append, args := #[s, x], argTypes := #[t, tx] })
    {e : TypeId} {i : TypeInfo} {z : Value} {sz by' : Nat} (ht : P.underlying t = some (.slice e)) (hi : P.info? e = some i) (hz : i.zero = some z) (hsz : i.size = sz) (hby : i.bytes = by') (hzs : z.cells.size = sz)
    (v xv : Value) (n m : Nat) (xs news : List Value) (hs : a.eval s = v) (hx : a.eval x = xv) (hv : Own w e sz v n xs) (hsrc : Src P sz tx xv m news w)
    (h63 : n + m ≤ maxLen) (hb : (n + m) * by' ≤ 140737488355328)
    (h : ∀ a' c' w', Own w' e sz (.slice a' (n + m) c') (n + m) (xs ++ news) → Keep (fun k => own v = some k ∧ 0 < m) w w' →
      (own (.slice a' (n + m) c') = own v ∧ blk (.slice a' (n + m) c') = blk v ∨ blk (.slice a' (n + m) c') = some w.heap.size ∧ own (.slice a' (n + m) c') = some w.heap.size) → K (a.put o.dst (.slice a' (n + m) c')) w') :
    if Region.wanted o (yielded ops a.tmps) = true then Oper.wp P o a w K Q else E := by
  have hw : Region.wanted o (yielded ops a.tmps) = true := by simp [Region.wanted, hgd]
  rw [if_pos hw]
  exact wp_app w s x t tx ho ht hi hz hsz hby hzs v xv n m xs news hs hx hv hsrc h63 hb h

theorem Sl.take {w : World} {sz : Nat} {a : Option Addr} {n c : Nat} {xs : List Value} (h : Sl w sz (.slice a n c) n xs) {k c' : Nat} (hk : k ≤ n) (hc : k ≤ c') (hc' : c' ≤ maxLen) : Sl w sz (.slice a k c') k (xs.take (k * sz)) := by
  obtain ⟨hl, a', c'', hv, hnc, hm, hr⟩ := h
  cases hv
  have hks : k * sz ≤ n * sz := Nat.mul_le_mul_right _ hk
  refine ⟨by rw [List.length_take, hl]; omega, a, c', rfl, hc, hc', fun hne => ?_⟩
  obtain ⟨b, off, h1, h2⟩ := hr (fun e => hne (by simp [e]))
  refine ⟨b, off, h1, fun j u hu => h2 j u ?_⟩
  rw [List.getElem?_take] at hu
  split at hu
  · exact hu
  · cases hu
theorem Sl.drop {w : World} {sz : Nat} {a : Option Addr} {n c : Nat} {xs : List Value} (h : Sl w sz (.slice a n c) n xs) {k : Nat} (hk : k ≤ n) : Sl w sz (.slice (if c = k then a else a.map (·.add (k * sz))) (n - k) (c - k)) (n - k) (xs.drop (k * sz)) := by
  obtain ⟨hl, a', c'', hv, hnc, hm, hr⟩ := h
  cases hv
  refine ⟨by rw [List.length_drop, hl, Nat.sub_mul], _, c - k, rfl, by omega, by omega, fun hne => ?_⟩
  have hxs : xs ≠ [] := fun e => hne (by simp [e])
  obtain ⟨b, off, rfl, h2⟩ := hr hxs
  have hlt : k * sz < xs.length := by
    rcases Nat.lt_or_ge (k * sz) xs.length with h | h
    · exact h
    · exact absurd (List.drop_eq_nil_of_le h) hne
  have hkn : ¬ c = k := fun e => by
    rw [hl] at hlt
    have := Nat.lt_of_mul_lt_mul_right hlt
    omega
  rw [if_neg hkn]
  refine ⟨b, off + k * sz, ?_, fun j u hu => ?_⟩
  · simp only [Option.map_some, Addr.add]
    split
    · rename_i e; rw [e]; rfl
    · rfl
  · rw [List.getElem?_drop] at hu
    rw [Nat.add_assoc]
    exact h2 _ u hu

def bv (l : List UInt8) : List Value := l.map fun c => .int .u8 c.toNat
@[simp] theorem bv_length (l : List UInt8) : (bv l).length = l.length := by simp [bv]
theorem bv_one (l : List UInt8) : ∀ u ∈ bv l, u.oneCell' = true := by
  intro u hu
  obtain ⟨c, _, rfl⟩ := List.mem_map.1 hu
  rfl
theorem bv_append (a b : List UInt8) : bv (a ++ b) = bv a ++ bv b := by simp [bv]
theorem bv_get {l : List UInt8} {j : Nat} (h : j < l.length) : (bv l)[j]? = some (.int .u8 l[j].toNat) := by simp [bv, h]

theorem info_u8 : (Try.prog.info? 5).map (fun i => (i.zero, i.size, i.bytes)) = some (some (.int .u8 0), 1, 1) := by kernel_rfl

/-- append at bytes. -/
theorem wpList_appB (w : World) {ops : Array Oper} {rest : List Oper} {o : Oper} {a : Act} {Q : Exit → Act → World → Prop} (hgd : o.guard = none) (s x : Operand)
    (ho : o.op = .call { callee := .builtin .append, args := #[s, x], argTypes := #[32, 32] })
    (v xv : Value) (l m : List UInt8) (hs : a.eval s = v) (hx : a.eval x = xv) (hv : Own w 5 1 v l.length (bv l)) (hsrc : Sl w 1 xv m.length (bv m))
    (hb : l.length + m.length ≤ 140737488355328)
    (h : ∀ a' c' w', Own w' 5 1 (.slice a' (l ++ m).length c') (l ++ m).length (bv (l ++ m)) → Keep (fun k => own v = some k ∧ 0 < m.length) w w' →
      (own (.slice a' (l ++ m).length c') = own v ∧ blk (.slice a' (l ++ m).length c') = blk v ∨ blk (.slice a' (l ++ m).length c') = some w.heap.size ∧ own (.slice a' (l ++ m).length c') = some w.heap.size) →
      wpList Try.prog ops Q rest (a.put o.dst (.slice a' (l ++ m).length c')) w') : wpList Try.prog ops Q (o :: rest) a w := by
  obtain ⟨i, hi, hz0, hz1, hz2⟩ := info_parts info_u8
  refine wpList_app w hgd s x _ _ ho Try.underlying32 hi hz0 hz1 hz2 rfl v xv l.length m.length (bv l) (bv m) hs hx hv (Src.ofSl Try.underlying32 hsrc (bv_one m)) (by unfold maxLen; omega) (by omega) ?_
  rw [← List.length_append, ← bv_append]
  exact h
/-- .. as one step of a region that draws its order. -/
theorem wp_appB (w : World) {o : Oper} {a : Act} {K : Act → World → Prop} {Q : Exit → Act → World → Prop} (s x : Operand)
    (ho : o.op = .call { callee := .builtin .append, args := #[s, x], argTypes := #[32, 32] })
    (v xv : Value) (l m : List UInt8) (hs : a.eval s = v) (hx : a.eval x = xv) (hv : Own w 5 1 v l.length (bv l)) (hsrc : Sl w 1 xv m.length (bv m))
    (hb : l.length + m.length ≤ 140737488355328)
    (h : ∀ a' c' w', Own w' 5 1 (.slice a' (l ++ m).length c') (l ++ m).length (bv (l ++ m)) → Keep (fun k => own v = some k ∧ 0 < m.length) w w' →
      (own (.slice a' (l ++ m).length c') = own v ∧ blk (.slice a' (l ++ m).length c') = blk v ∨ blk (.slice a' (l ++ m).length c') = some w.heap.size ∧ own (.slice a' (l ++ m).length c') = some w.heap.size) →
      K (a.put o.dst (.slice a' (l ++ m).length c')) w') : o.wp Try.prog a w K Q := by
  obtain ⟨i, hi, hz0, hz1, hz2⟩ := info_parts info_u8
  refine wp_app w s x _ _ ho Try.underlying32 hi hz0 hz1 hz2 rfl v xv l.length m.length (bv l) (bv m) hs hx hv (Src.ofSl Try.underlying32 hsrc (bv_one m)) (by unfold maxLen; omega) (by omega) ?_
  rw [← List.length_append, ← bv_append]
  exact h

theorem step_appB (w : World) {ops : Array Oper} {o : Oper} {a : Act} {K : Act → World → Prop} {Q : Exit → Act → World → Prop} {E : Prop} (hgd : o.guard = none) (s x : Operand)
    (ho : o.op = .call { callee := .builtin .append, args := #[s, x], argTypes := #[32, 32] })
    (v xv : Value) (l m : List UInt8) (hs : a.eval s = v) (hx : a.eval x = xv) (hv : Own w 5 1 v l.length (bv l)) (hsrc : Sl w 1 xv m.length (bv m))
    (hb : l.length + m.length ≤ 140737488355328)
    (h : ∀ a' c' w', Own w' 5 1 (.slice a' (l ++ m).length c') (l ++ m).length (bv (l ++ m)) → Keep (fun k => own v = some k ∧ 0 < m.length) w w' →
      (own (.slice a' (l ++ m).length c') = own v ∧ blk (.slice a' (l ++ m).length c') = blk v ∨ blk (.slice a' (l ++ m).length c') = some w.heap.size ∧ own (.slice a' (l ++ m).length c') = some w.heap.size) →
      K (a.put o.dst (.slice a' (l ++ m).length c')) w') :
    if Region.wanted o (yielded ops a.tmps) = true then Oper.wp Try.prog o a w K Q else E := by
  have hw : Region.wanted o (yielded ops a.tmps) = true := by simp [Region.wanted, hgd]
  rw [if_pos hw]
  exact wp_appB w s x ho v xv l m hs hx hv hsrc hb h

/-- What is new: bytes l in new memory, or without room. -/
def FreshB (w : World) (l : List UInt8) (e : Ending) (w' : World) : Prop :=
  ∃ a c, e = .returned (.slice a l.length c) ∧ Own w' 5 1 (.slice a l.length c) l.length (bv l) ∧ Keep (fun _ => False) w w' ∧ (∀ g, blk (.slice a l.length c) = some g → w.heap.size ≤ g)

set_option maxRecDepth 20000
theorem cloneB (v : Value) (l : List UInt8) (w : World) (hS : Sl w 1 v l.length (bv l)) (hl : l.length ≤ 140737488355328) :
    Calls Try.prog 37 #[v] w (FreshB w l) := by
  obtain ⟨a, c, rfl⟩ := hS.form
  cases a with
  | none =>
    have heq : ∀ n, (binOp .eql 32 (.slice none n c) (.slice none 0 0)).run Try.prog w = .ok (.bool true) w := fun n => Lib.run_eql_slice_nil w _ _ none _ _ _ _ Try.underlying32
    have hl0 : l = [] := by
      obtain ⟨_, a, c', h1, _, _, h4⟩ := hS
      cases l with
      | nil => rfl
      | cons x r =>
        obtain ⟨b, off, h5, _⟩ := h4 (by simp [bv])
        cases h1
        cases h5
    subst hl0
    go_enter Try.func37, Try.ntmps37
    go_wp2
    go_ret
    exact ⟨none, 0, rfl, Own.nil _ _ _, Keep.refl _ _, by simp [blk]⟩
  | some ad =>
    have heq : (binOp .eql 32 (.slice (some ad) l.length c) (.slice none 0 0)).run Try.prog w = .ok (.bool false) w := Lib.run_eql_slice_nil w _ _ (some ad) _ _ _ _ Try.underlying32
    go_enter Try.func37, Try.ntmps37
    go_wp2_with (at_builtin; refine wpList_appB _ rfl (.tmp 5) (.tmp 6) rfl (.slice (some ⟨w.heap.size, 0, none⟩) 0 0) _ [] l rfl rfl (Own.zero _ _ _ _) (hS.keep ((Keep.refl (fun _ => False) _).alloc _) (fun _ _ h => h)) (by simp; omega) ?_; intro a' c' w1 h1 h2 h3)
    go_ret
    simp only [List.nil_append] at h1 h3 ⊢
    refine ⟨a', c', rfl, h1, ((Keep.refl _ w).alloc _).trans' h2 (fun _ _ h => h) (fun k hk h => ?_), ?_⟩
    · simp [own] at h
    · intro g hg
      rcases h3 with ⟨_, h3⟩ | ⟨h3, _⟩
      · rw [h3] at hg; simp [blk] at hg; omega
      · rw [h3] at hg; simp at hg; omega

theorem clipB (a : Option Addr) (n c : Nat) (w : World) (hn : n ≤ c) (hc : c ≤ maxLen) :
    Calls Try.prog 36 #[.slice a n c] w fun e w' => e = .returned (.slice a n n) ∧ w = w' := by
  unfold maxLen at hc
  go_enter Try.func36, Try.ntmps36
  go_wp2
  all_goals (go_ret; exact ⟨by cases a <;> simp [Addr.add], rfl⟩)
theorem Own.clip {w : World} {e sz : Nat} {a : Option Addr} {n c : Nat} {xs : List Value} (h : Own w e sz (.slice a n c) n xs) : Own w e sz (.slice a n n) n xs := by
  obtain ⟨hl, a', c', hv, hnc, hm, hr⟩ := h
  cases hv
  refine ⟨hl, a, n, rfl, Nat.le_refl _, Nat.le_trans hnc hm, ?_⟩
  rcases hr with rfl | ⟨g, cur, rfl, hg, hs, ht⟩
  · exact .inl (by omega)
  · exact .inr ⟨g, cur, rfl, hg, Nat.le_trans (Nat.mul_le_mul_right _ hnc) hs, ht⟩
end Go.Proofs.Ytlnlgjifepjkbaa
