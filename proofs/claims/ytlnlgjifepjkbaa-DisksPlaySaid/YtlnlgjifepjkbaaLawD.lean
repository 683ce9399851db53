/- One act on both disks: what holds on the way. -/
import Derived.Test.YtlnlgjifepjkbaaBookC
import Derived.Test.YtlnlgjifepjkbaaDiskF
import Derived.Deep.RegionHeld3
namespace Go.Proofs.Ytlnlgjifepjkbaa
open Go.RowKit
set_option maxRecDepth 20000

/-- Both disks hold d, and share nothing. -/
structure Both (w : World) (bd m : Nat) (S R : Nat → Prop) (d : D) : Prop where
  p : IsDisk w bd S d
  r : IsRef w m R d
  sep : ∀ k, S k → ¬ R k

/-- Both disks have turned; nothing else has. -/
def Turned2 (w w' : World) (bd m : Nat) (S R : Nat → Prop) (d' : D) : Prop :=
  ∃ S' R', Both w' bd m S' R' d' ∧ Keep (fun k => S k ∨ R k) w w' ∧ (∀ k, S' k → S k ∨ w.heap.size ≤ k) ∧ (∀ k, R' k → R k ∨ w.heap.size ≤ k)
def DoesPost (w : World) (bd m : Nat) (S R : Nat → Prop) (d' : D) (e : Ending) (w' : World) : Prop := e = .returned (.bool true) ∧ Turned2 w w' bd m S R d'

/-- An act's argument. -/
structure X where
  kind : Int
  name : ByteArray
  b : Value
  l : List UInt8
  n : Int
  lo : Value
  loss : List Int
def X.cells (x : X) : Array Value := #[.int .u8 x.kind, .string x.name, x.b, .int .i64 x.n, x.lo]
structure XAt (w : World) (S R : Nat → Prop) (x : X) : Prop where
  k0 : 0 ≤ x.kind
  k1 : x.kind ≤ 255
  b : Sl w 1 x.b x.l.length (bv x.l)
  bl : x.l.length ≤ 30000
  bS : ∀ g, blk x.b = some g → x.l ≠ [] → ¬ S g ∧ ¬ R g
  n0 : -9223372036854775808 ≤ x.n
  n1 : x.n ≤ 9223372036854775807
  lo : Sl w 1 x.lo x.loss.length (iv x.loss)
  loS : ∀ g, blk x.lo = some g → x.loss ≠ [] → ¬ S g ∧ ¬ R g
  loN : ∀ i ∈ x.loss, -9223372036854775808 ≤ i ∧ i ≤ 9223372036854775807

/-- Ahead of the doings: the act lies in a box at block kb, t is a twin of its bytes; both lie in new memory. -/
structure Box (w W : World) (kb : Nat) (x : X) : Prop where
  new : w.heap.size ≤ kb
  at_ : W.heap[kb]? = some (.cells x.cells 35 (0, 0))
structure Ahead (w W : World) (kb : Nat) (t : Value) (x : X) : Prop where
  keep : Keep (fun _ => False) w W
  twin : Twin W t x.l
  tnew : ∀ g, blk t = some g → w.heap.size ≤ g
  box : Box w W kb x

theorem bv_ne {l : List UInt8} (h : bv l ≠ []) : l ≠ [] := fun e => h (by rw [e]; rfl)
theorem iv_ne {l : List Int} (h : iv l ≠ []) : l ≠ [] := fun e => h (by rw [e]; rfl)

section
variable {w W W' : World} {bd m kb : Nat} {S R : Nat → Prop} {d d' : D} {x : X} {t : Value}

theorem Box.c0 (h : Box w W kb x) : W.cell? ⟨kb, 0, none⟩ = some (.int .u8 x.kind) := by rw [cell_of h.at_]; rfl
theorem Box.c1 (h : Box w W kb x) : W.cell? ⟨kb, 1, none⟩ = some (.string x.name) := by rw [cell_of h.at_]; rfl
theorem Box.c2 (h : Box w W kb x) : W.cell? ⟨kb, 2, none⟩ = some x.b := by rw [cell_of h.at_]; rfl
theorem Box.c3 (h : Box w W kb x) : W.cell? ⟨kb, 3, none⟩ = some (.int .i64 x.n) := by rw [cell_of h.at_]; rfl
theorem Box.c4 (h : Box w W kb x) : W.cell? ⟨kb, 4, none⟩ = some x.lo := by rw [cell_of h.at_]; rfl
theorem Box.keep {T : Nat → Prop} (h : Box w W kb x) (k : Keep T W W') (hT : ∀ i, w.heap.size ≤ i → ¬ T i) : Box w W' kb x := ⟨h.new, k.obj h.at_ (hT _ h.new)⟩

theorem Both.old (h : Both w bd m S R d) {k : Nat} (hk : S k ∨ R k) : k < w.heap.size := hk.elim h.p.lt h.r.lt
theorem Both.keep {T : Nat → Prop} (h : Both w bd m S R d) (k : Keep T w W) (hT : ∀ i, S i ∨ R i → ¬ T i) : Both W bd m S R d :=
  ⟨h.p.keep k (fun i hi => hT i (.inl hi)), h.r.keep k (fun i hi => hT i (.inr hi)), h.sep⟩

/-- Behind the program's doing. -/
structure After1 (w W : World) (bd m kb : Nat) (S R : Nat → Prop) (d d' : D) (t : Value) (x : X) : Prop where
  disk : ∃ S', IsDisk W bd S' d' ∧ ∀ k, S' k → S k ∨ w.heap.size ≤ k
  ref : IsRef W m R d
  keep : Keep S w W
  twin : Twin W t x.l
  box : Box w W kb x
/-- Behind both. -/
structure After2 (w W : World) (bd m kb : Nat) (S R : Nat → Prop) (d' : D) (t : Value) (x : X) : Prop where
  turned : Turned2 w W bd m S R d'
  twin : Twin W t x.l
  box : Box w W kb x

theorem After1.of (hB : Both w bd m S R d) (h : Ahead w W kb t x) (n : Next W W' bd S d') : After1 w W' bd m kb S R d d' t x := by
  obtain ⟨S', h1, h2, h3⟩ := n
  refine ⟨⟨S', h1, fun k hk => (h3 k hk).imp id (Nat.le_trans h.keep.size)⟩, (hB.r.keep h.keep (fun _ _ h => h)).keep h2 (fun i hi hs => hB.sep i hs hi), h.keep.trans' h2 (fun _ _ h => h.elim) (fun _ _ h => h), h.twin.keep h2 (fun g hg hs => ?_), h.box.keep h2 (fun i hi hs => ?_)⟩
  · have := h.tnew g hg
    have := hB.old (.inl hs)
    omega
  · have := hB.old (.inl hs)
    omega
theorem After2.of (hB : Both w bd m S R d) (h : After1 w W bd m kb S R d d' t x) (ht : ∀ g, blk t = some g → w.heap.size ≤ g) (n : RNext W W' m R d') : After2 w W' bd m kb S R d' t x := by
  obtain ⟨R', h1, h2, h3⟩ := n
  obtain ⟨S', g1, g2⟩ := h.disk
  refine ⟨⟨S', R', ⟨g1.keep h2 (fun i hi hr => ?_), h1, fun i hi hr => ?_⟩, h.keep.trans' h2 (fun _ _ h => .inl h) (fun _ _ h => .inr h), g2, fun i hi => (h3 i hi).imp id (Nat.le_trans h.keep.size)⟩, h.twin.keep h2 (fun g hg hs => ?_), h.box.keep h2 (fun i hi hs => ?_)⟩
  · rcases g2 i hi with h5 | h5
    · exact hB.sep i h5 hr
    · have := hB.old (.inr hr)
      omega
  · rcases h3 i hr with h4 | h4
    · rcases g2 i hi with h5 | h5
      · exact hB.sep i h5 h4
      · have := hB.old (.inr h4)
        omega
    · have := g1.lt hi
      omega
  · have := ht g hg
    have := hB.old (.inr hs)
    omega
  · have := hB.old (.inr hs)
    omega
theorem After1.drewN (h : After1 w W bd m kb S R d d' t x) (n : Nat) : After1 w (W.drewN n) bd m kb S R d d' t x := by
  have k : Keep (fun _ => False) W (W.drewN n) := (Keep.refl _ _).drewN n
  obtain ⟨S', g1, g2⟩ := h.disk
  exact ⟨⟨S', g1.keep k (fun _ _ h => h), g2⟩, h.ref.keep k (fun _ _ h => h), h.keep.drewN n, h.twin.keep k (fun _ _ h => h), h.box.keep k (fun _ _ h => h)⟩
theorem Ahead.drewN (h : Ahead w W kb t x) (n : Nat) : Ahead w (W.drewN n) kb t x := by
  have k : Keep (fun _ => False) W (W.drewN n) := (Keep.refl _ _).drewN n
  exact ⟨h.keep.drewN n, h.twin.keep k (fun _ _ h => h), h.tnew, h.box.keep k (fun _ _ h => h)⟩
theorem Turned2.keep (h : Turned2 w W bd m S R d') (k : Keep (fun _ => False) W W') : Turned2 w W' bd m S R d' := by
  obtain ⟨S', R', h1, h2, h3, h4⟩ := h
  exact ⟨S', R', h1.keep k (fun _ _ h => h), h2.trans' k (fun _ _ h => h) (fun _ _ h => h.elim), h3, h4⟩
theorem Turned2.refl (hB : Both w bd m S R d) : Turned2 w w bd m S R d := ⟨S, R, hB, Keep.refl _ _, fun _ h => .inl h, fun _ h => .inl h⟩

/-- The act's bytes stand where they stood. -/
theorem XAt.b1 (hx : XAt w S R x) (h : After1 w W bd m kb S R d d' t x) : Sl W 1 x.b x.l.length (bv x.l) := hx.b.keep' h.keep (fun g hg hne hs => (hx.bS g hg (bv_ne hne)).1 hs)
theorem XAt.b2 (hx : XAt w S R x) (h : Turned2 w W bd m S R d') : Sl W 1 x.b x.l.length (bv x.l) := by
  obtain ⟨S', R', h1, h2, h3, h4⟩ := h
  exact hx.b.keep' h2 (fun g hg hne hs => hs.elim (hx.bS g hg (bv_ne hne)).1 (hx.bS g hg (bv_ne hne)).2)
theorem XAt.lo2 (hx : XAt w S R x) (h : Turned2 w W bd m S R d') : Sl W 1 x.lo x.loss.length (iv x.loss) := by
  obtain ⟨S', R', h1, h2, h3, h4⟩ := h
  exact hx.lo.keep' h2 (fun g hg hne hs => hs.elim (hx.loS g hg (iv_ne hne)).1 (hx.loS g hg (iv_ne hne)).2)
end
end Go.Proofs.Ytlnlgjifepjkbaa
