/- One act on both disks: the calls that answer an error's number, each by its contract. -/
import Derived.Test.YtlnlgjifepjkbaaLawD
namespace Go.Proofs.Ytlnlgjifepjkbaa
open Go.RowKit
set_option maxRecDepth 20000

section
variable {w W : World} {bd m kb : Nat} {S R : Nat → Prop} {d : D} {x : X} {t : Value}

/-- What the program's doing answers. -/
def Ans1 (w : World) (bd m kb : Nat) (S R : Nat → Prop) (d : D) (r : D × Int) (t : Value) (x : X) (e : Ending) (w' : World) : Prop := e = .returned (.int .i64 r.2) ∧ After1 w w' bd m kb S R d r.1 t x
def Ans2 (w : World) (bd m kb : Nat) (S R : Nat → Prop) (r : D × Int) (t : Value) (x : X) (e : Ending) (w' : World) : Prop := e = .returned (.int .i64 r.2) ∧ After2 w w' bd m kb S R r.1 t x

theorem Ahead.tS (h : Ahead w W kb t x) (hB : Both w bd m S R d) : ∀ g, blk t = some g → ¬ S g := fun g hg hs => by
  have := h.tnew g hg
  have := hB.old (.inl hs)
  omega
theorem XAt.bm (hx : XAt w S R x) (hB : Both w bd m S R d) : blk x.b = some m → x.l = [] := fun e => Classical.byContradiction fun hne => (hx.bS m e hne).2 hB.r.m_mem

theorem call_add (hB : Both w bd m S R d) (hx : XAt w S R x) (h : Ahead w W kb t x) :
    Calls Try.prog 9 #[.pointer (some ⟨bd, 0, none⟩), .string x.name, t] W (Ans1 w bd m kb S R d (addM d x.name x.l) t x) :=
  (add_abs (hB.p.keep h.keep (fun _ _ h => h)) x.name t x.l h.twin.sl (h.tS hB) (by have := hx.bl; omega)).mono fun _ _ h1 => ⟨h1.1, After1.of hB h h1.2⟩
theorem call_radd (hB : Both w bd m S R d) (hx : XAt w S R x) (h : After1 w W bd m kb S R d (addM d x.name x.l).1 t x) (ht : ∀ g, blk t = some g → w.heap.size ≤ g) :
    Calls Try.prog 17 #[.pointer (some ⟨m, 0, none⟩), .string x.name, x.b] W (Ans2 w bd m kb S R (addM d x.name x.l) t x) :=
  (radd_abs h.ref hB.p.ok.sorted x.name x.b x.l (hx.b1 h) (hx.bm hB) (by have := hx.bl; omega)).mono fun _ _ h1 => ⟨h1.1, After2.of hB h ht h1.2⟩
theorem call_put (hB : Both w bd m S R d) (hx : XAt w S R x) (h : Ahead w W kb t x) :
    Calls Try.prog 14 #[.pointer (some ⟨bd, 0, none⟩), .string x.name, t] W (Ans1 w bd m kb S R d (putM d x.name x.l) t x) :=
  (put_abs (hB.p.keep h.keep (fun _ _ h => h)) x.name t x.l h.twin.sl (h.tS hB) (by have := hx.bl; omega)).mono fun _ _ h1 => ⟨h1.1, After1.of hB h h1.2⟩
theorem call_rput (hB : Both w bd m S R d) (hx : XAt w S R x) (h : After1 w W bd m kb S R d (putM d x.name x.l).1 t x) (ht : ∀ g, blk t = some g → w.heap.size ≤ g) :
    Calls Try.prog 19 #[.pointer (some ⟨m, 0, none⟩), .string x.name, x.b] W (Ans2 w bd m kb S R (putM d x.name x.l) t x) :=
  (rput_abs h.ref hB.p.ok.sorted x.name x.b x.l (hx.b1 h) (hx.bm hB)).mono fun _ _ h1 => ⟨h1.1, After2.of hB h ht h1.2⟩
theorem call_sure (hB : Both w bd m S R d) (hx : XAt w S R x) (h : Ahead w W kb t x) :
    Calls Try.prog 10 #[.pointer (some ⟨bd, 0, none⟩), .string x.name] W (Ans1 w bd m kb S R d (sureM d x.name) t x) :=
  (sure_abs (hB.p.keep h.keep (fun _ _ h => h)) x.name).mono fun _ _ h1 => ⟨h1.1, After1.of hB h h1.2⟩
theorem call_rsure (hB : Both w bd m S R d) (hx : XAt w S R x) (h : After1 w W bd m kb S R d (sureM d x.name).1 t x) (ht : ∀ g, blk t = some g → w.heap.size ≤ g) :
    Calls Try.prog 18 #[.pointer (some ⟨m, 0, none⟩), .string x.name] W (Ans2 w bd m kb S R (sureM d x.name) t x) :=
  (rsure_abs h.ref hB.p.ok.sorted x.name).mono fun _ _ h1 => ⟨h1.1, After2.of hB h ht h1.2⟩
theorem call_drop (hB : Both w bd m S R d) (hx : XAt w S R x) (h : Ahead w W kb t x) :
    Calls Try.prog 20 #[.pointer (some ⟨bd, 0, none⟩), .string x.name] W (Ans1 w bd m kb S R d (dropM d x.name) t x) :=
  (drop_abs (hB.p.keep h.keep (fun _ _ h => h)) x.name).mono fun _ _ h1 => ⟨h1.1, After1.of hB h h1.2⟩
theorem call_rdrop (hB : Both w bd m S R d) (hx : XAt w S R x) (h : After1 w W bd m kb S R d (dropM d x.name).1 t x) (ht : ∀ g, blk t = some g → w.heap.size ≤ g) :
    Calls Try.prog 21 #[.pointer (some ⟨m, 0, none⟩), .string x.name] W (Ans2 w bd m kb S R (dropM d x.name) t x) :=
  (rdrop_abs h.ref hB.p.ok.sorted x.name).mono fun _ _ h1 => ⟨h1.1, After2.of hB h ht h1.2⟩
end
end Go.Proofs.Ytlnlgjifepjkbaa
