/- A book of pages: Bytes. -/
import Derived.Test.YtlnlgjifepjkbaaBookA
namespace Go.Proofs.Ytlnlgjifepjkbaa
open Go.RowKit
set_option maxRecDepth 20000

theorem info_page : (Try.prog.info? 72).map (fun i => (i.zero, i.size, i.bytes)) = some (some .nilIface, 1, 16) := by kernel_rfl
/-- A page, as it lies in a book. -/
def page (v : Value) (x y : Int) : Value := .iface 70 (.agg #[v, .int .u8 x, .int .u8 y])

/-- A book in memory: its pages. -/
structure BookAt (w : World) (k : Nat) (pv : Value) (ps : List Value) : Prop where
  book : w.heap[k]? = some (.cells #[pv] 50 (0, 0))
  pages : Own w 72 1 pv ps.length ps

section
variable {w : World} {k : Nat} {pv : Value} {ps : List Value}

theorem BookAt.keep {w' : World} {S : Nat → Prop} (h : BookAt w k pv ps) (kp : Keep S w w') (h1 : ¬ S k) (h2 : ∀ g, own pv = some g → ¬ S g) : BookAt w' k pv ps :=
  ⟨kp.obj h.book h1, h.pages.keep kp h2⟩
theorem BookAt.own_k (h : BookAt w k pv ps) : own pv ≠ some k := fun e => by
  obtain ⟨cur, hc⟩ := h.pages.elem e
  rw [h.book] at hc
  simp at hc

theorem number_abs (h : BookAt w k pv ps) (hl : ps.length ≤ 1000) :
    Calls Try.prog 45 #[.pointer (some ⟨k, 0, none⟩)] w fun e w' => e = .returned (.int .i64 (ps.length + 1)) ∧ w = w' := by
  have h0 : w.cell? ⟨k, 0, none⟩ = some pv := by rw [cell_of h.book]; rfl
  obtain ⟨a, c, rfl⟩ := h.pages.form
  clear h
  go_enter Try.func45, Try.ntmps45
  go_wp2
  go_ret
  exact ⟨rfl, rfl⟩

/-- One page more. -/
def Paged (w : World) (k : Nat) (pv : Value) (ps : List Value) (e : Ending) (w' : World) : Prop :=
  e = .returned (.tuple #[]) ∧ ∃ pv', BookAt w' k pv' ps ∧ Keep (fun i => i = k ∨ own pv = some i) w w' ∧ ∀ g, own pv' = some g → own pv = some g ∨ w.heap.size ≤ g

theorem bytes_close {w2 : World} {a : Option Addr} {c : Nat} {p : Value} (hk : k < w.heap.size) (h : BookAt w k pv ps) (ho : Own w2 72 1 (.slice a (ps.length + 1) c) (ps.length + 1) (ps ++ [p])) (hK : Keep (fun i => own pv = some i) w w2)
    (h3 : own (.slice a (ps.length + 1) c) = own pv ∨ ∃ g, own (.slice a (ps.length + 1) c) = some g ∧ w.heap.size ≤ g) : Paged w k pv (ps ++ [p]) (.returned (.tuple #[])) (w2.setCell ⟨k, 0, none⟩ (.slice a (ps.length + 1) c)) := by
  have hb := hK.obj h.book (fun e => h.own_k e)
  have hkk : Keep (fun i => i = k) w2 (w2.setCell ⟨k, 0, none⟩ (.slice a (ps.length + 1) c)) := (Keep.refl (fun i => i = k) w2).setCell ⟨k, 0, none⟩ _ (.inr rfl)
  refine ⟨rfl, _, ⟨by have := setCell_at w2 k 0 (.slice a (ps.length + 1) c) hb; exact this, ?_⟩, hK.trans' hkk (fun _ _ h => .inr h) (fun _ _ h => .inl h), ?_⟩
  · have e : (ps ++ [p]).length = ps.length + 1 := by simp
    rw [e]
    refine ho.keep hkk (fun g hg e => ?_)
    subst e
    rcases h3 with h3 | ⟨g', h3, h4⟩
    · exact h.own_k (h3 ▸ hg)
    · rw [h3] at hg; cases hg; omega
  · intro g hg
    rcases h3 with h3 | ⟨g', h3, h4⟩
    · exact .inl (h3 ▸ hg)
    · rw [h3] at hg; cases hg; exact .inr h4

theorem page_one (v : Value) (x y : Int) : ∀ u ∈ [page v x y], u.oneCell' = true := by
  intro u hu
  simp at hu
  subst hu
  rfl
theorem wpList_appP (w : World) {ops : Array Oper} {rest : List Oper} {o : Oper} {a : Act} {Q : Exit → Act → World → Prop} (hgd : o.guard = none) (s x : Operand)
    (ho : o.op = .call { callee := .builtin .append, args := #[s, x], argTypes := #[48, 48] })
    (v : Value) (g c : Nat) (v' : Value) (x' y' : Int) (ps : List Value) (hs : a.eval s = v) (hx : a.eval x = .slice (some ⟨g, 0, none⟩) 1 1) (hv : Own w 72 1 v ps.length ps) (hsrc : w.heap[g]? = some (.cells #[page v' x' y'] 72 (0, 0)))
    (hb : ps.length ≤ 1000)
    (h : ∀ a' c' w', Own w' 72 1 (.slice a' (ps.length + 1) c') (ps.length + 1) (ps ++ [page v' x' y']) → Keep (fun k => own v = some k ∧ 0 < 1) w w' →
      (own (.slice a' (ps.length + 1) c') = own v ∧ blk (.slice a' (ps.length + 1) c') = blk v ∨ blk (.slice a' (ps.length + 1) c') = some w.heap.size ∧ own (.slice a' (ps.length + 1) c') = some w.heap.size) →
      wpList Try.prog ops Q rest (a.put o.dst (.slice a' (ps.length + 1) c')) w') : wpList Try.prog ops Q (o :: rest) a w := by
  obtain ⟨i, hi, hz0, hz1, hz2⟩ := info_parts info_page
  refine wpList_app w hgd s x _ _ ho Try.underlying48 hi hz0 hz1 hz2 rfl v _ ps.length 1 ps [page v' x' y'] hs hx hv (Src.ofSl Try.underlying48 (Sl.ofBlock hsrc rfl (by decide) (by unfold maxLen; omega)) (page_one _ _ _)) (by unfold maxLen; omega) (by omega) ?_
  exact h

set_option maxHeartbeats 1000000 in
theorem bytes_one (h : BookAt w k (.slice none 0 0) []) (a : Option Addr) (n : Nat) :
    Calls Try.prog 25 #[.pointer (some ⟨k, 0, none⟩), .slice a n n] w (Paged w k (.slice none 0 0) [page (.slice a n n) 1 129]) := by
  have h0 : w.cell? ⟨k, 0, none⟩ = some (.slice none 0 0) := by rw [cell_of h.book]; rfl
  have HN := Lib.hid (number_abs h (by simp))
  have HB := Lib.hid h
  have HL := Lib.hid (lt_of_heap h.book)
  have hx : bits BinOp.xor IntKind.u8 1 128 = 129 := by decide
  clear h
  go_enter Try.func25, Try.ntmps25
  go_wp2_with (first | (go_at_call 45; refine HN.out.mono ?_; rintro e w' ⟨rfl, rfl⟩) | (at_builtin; go_loud (refine wpList_appP _ rfl (.tmp 11) (.tmp 20) rfl (.slice none 0 0) w.heap.size 0 (.slice a n n) 1 129 [] rfl rfl (Own.nil _ _ _) (alloc_new _ _) (by simp) ?_; intro a2 c2 w2 j1 j2 j3; have J1 := Lib.hid j1; have J2 := Lib.hid j2; have J3 := Lib.hid j3; have K2 := Lib.hid (((Keep.refl (fun _ => False) w).alloc (.cells #[page (.slice a n n) 1 129] 72)).trans' j2 (fun _ _ h => h) (fun k _ e => by simp [own] at e)); have hb2 := K2.out.obj HB.out.book (fun e => e); have q0 := (cell_of hb2 0).trans rfl; have q1 := free_of hb2 0; clear j1 j2 j3 hb2)))
  go_end0
  exact bytes_close (ps := []) (pv := .slice none 0 0) HL.out HB.out J1.out (K2.out.mono (fun _ _ h => h.elim)) (by
    rcases J3.out with ⟨h3, _⟩ | ⟨_, h3⟩
    · exact .inl h3
    · exact .inr ⟨_, h3, by simp⟩)

set_option maxHeartbeats 1000000 in
theorem bytes_two {v1 : Value} {x1 y1 : Int} (h : BookAt w k pv [page v1 x1 y1]) (a : Option Addr) (n : Nat) :
    Calls Try.prog 25 #[.pointer (some ⟨k, 0, none⟩), .slice a n n] w (Paged w k pv ([page v1 x1 y1] ++ [page (.slice a n n) 2 130])) := by
  have h0 : w.cell? ⟨k, 0, none⟩ = some pv := by rw [cell_of h.book]; rfl
  have HN : Hid (Calls Try.prog 45 #[.pointer (some ⟨k, 0, none⟩)] w fun e w' => e = .returned (.int .i64 2) ∧ w = w') := Lib.hid (number_abs h (by simp))
  have HB := Lib.hid h
  have HL := Lib.hid (lt_of_heap h.book)
  have HO : Hid (Own w 72 1 pv 1 [page v1 x1 y1]) := Lib.hid h.pages
  have hx : bits BinOp.xor IntKind.u8 2 128 = 130 := by decide
  obtain ⟨a1, c1, rfl⟩ := h.pages.form
  have HG : Hid (∀ g, own (.slice a1 [page v1 x1 y1].length c1) = some g → g < w.heap.size ∧ g ≠ k) := Lib.hid fun g hg => ⟨h.pages.lt hg, fun e => h.own_k (e ▸ hg)⟩
  simp only [List.length_singleton] at h0 HB HO HG ⊢
  clear h
  go_enter Try.func25, Try.ntmps25
  go_wp2_with (first | (go_at_call 45; refine HN.out.mono ?_; rintro e w' ⟨rfl, rfl⟩) | (at_builtin; go_loud (refine wpList_appP _ rfl (.tmp 11) (.tmp 20) rfl (.slice a1 1 c1) w.heap.size 0 (.slice a n n) 2 130 [page v1 x1 y1] rfl rfl (HO.out.keep ((Keep.refl (fun _ => False) w).alloc _) (fun _ _ h => h)) (alloc_new _ _) (by simp) ?_; intro a2 c2 w2 j1 j2 j3; have J1 := Lib.hid j1; have J2 := Lib.hid j2; have J3 := Lib.hid j3; have K2 : Hid (Keep (fun i => own (.slice a1 1 c1) = some i) w w2) := Lib.hid (((Keep.refl (fun _ => False) w).alloc (.cells #[page (.slice a n n) 2 130] 72)).trans' j2 (fun _ _ h => h.elim) (fun k _ e => e.1)); have hb2 := K2.out.obj HB.out.book (fun e => (HG.out _ e).2 rfl); have q0 := (cell_of hb2 0).trans rfl; have q1 := free_of hb2 0; clear j1 j2 j3 hb2)))
  go_end0
  exact bytes_close (ps := [page v1 x1 y1]) HL.out HB.out J1.out K2.out (by
    rcases J3.out with ⟨h3, _⟩ | ⟨_, h3⟩
    · exact .inl h3
    · exact .inr ⟨_, h3, by simp⟩)
end
end Go.Proofs.Ytlnlgjifepjkbaa
