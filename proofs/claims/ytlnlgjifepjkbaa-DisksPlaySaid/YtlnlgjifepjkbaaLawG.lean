/- One act on both disks: Fuse, Lift. -/
import Derived.Test.YtlnlgjifepjkbaaLawF
namespace Go.Proofs.Ytlnlgjifepjkbaa
open Go.RowKit
set_option maxRecDepth 20000

section
variable {w W : World} {bd m kb : Nat} {S R : Nat → Prop} {d : D} {x : X} {t : Value}

def Done1 (w : World) (bd m kb : Nat) (S R : Nat → Prop) (d d' : D) (t : Value) (x : X) (e : Ending) (w' : World) : Prop := e = .returned (.tuple #[]) ∧ After1 w w' bd m kb S R d d' t x
def Done2 (w : World) (bd m kb : Nat) (S R : Nat → Prop) (d' : D) (t : Value) (x : X) (e : Ending) (w' : World) : Prop := e = .returned (.tuple #[]) ∧ After2 w w' bd m kb S R d' t x
theorem call_lift (hB : Both w bd m S R d) (hx : XAt w S R x) (h : Ahead w W kb t x) :
    Calls Try.prog 11 #[.pointer (some ⟨bd, 0, none⟩), x.lo] W (Done1 w bd m kb S R d (liftM d x.loss) t x) :=
  (lift_abs (hB.p.keep h.keep (fun _ _ h => h)) x.lo x.loss (hx.lo.keep h.keep (fun _ _ h => h)) (fun g hg hne => (hx.loS g hg hne).1) hx.loN).mono fun _ _ h1 => ⟨h1.1, After1.of hB h h1.2⟩
theorem call_rlift (hB : Both w bd m S R d) (hx : XAt w S R x) (h : After1 w W bd m kb S R d (liftM d x.loss) t x) (ht : ∀ g, blk t = some g → w.heap.size ≤ g) :
    Calls Try.prog 23 #[.pointer (some ⟨m, 0, none⟩), x.lo] W (Done2 w bd m kb S R (liftM d x.loss) t x) :=
  (rlift_abs h.ref hB.p.ok.sorted x.lo x.loss (hx.lo.keep' h.keep (fun g hg hne hs => (hx.loS g hg (iv_ne hne)).1 hs)) (fun g hg hne => (hx.loS g hg hne).2) hx.loN).mono fun _ _ h1 => ⟨h1.1, After2.of hB h ht h1.2⟩
theorem call_fuse (hB : Both w bd m S R d) (h : Ahead w W kb t x) (n : Int) (hn : -9223372036854775808 ≤ n ∧ n ≤ 9223372036854775807) :
    Calls Try.prog 13 #[.pointer (some ⟨bd, 0, none⟩), .int .i64 n] W (Done1 w bd m kb S R d (fuseM d n) t x) :=
  (fuse_abs (hB.p.keep h.keep (fun _ _ h => h)) n hn).mono fun _ _ h1 => ⟨h1.1, After1.of hB h h1.2⟩
theorem call_rfuse (hB : Both w bd m S R d) (n : Int) (hn : -9223372036854775808 ≤ n ∧ n ≤ 9223372036854775807) (h : After1 w W bd m kb S R d (fuseM d n) t x) (ht : ∀ g, blk t = some g → w.heap.size ≤ g) :
    Calls Try.prog 22 #[.pointer (some ⟨m, 0, none⟩), .int .i64 n] W (Done2 w bd m kb S R (fuseM d n) t x) :=
  (setfuse_abs h.ref n hn).mono fun _ _ h1 => ⟨h1.1, After2.of hB h ht h1.2⟩

set_option maxHeartbeats 4000000 in
theorem does_lift (hB : Both w bd m S R d) (hx : XAt w S R x) (hk : x.kind % 8 = 6) :
    Calls Try.prog 7 #[.pointer (some ⟨bd, 0, none⟩), .pointer (some ⟨m, 0, none⟩), .agg x.cells] w (DoesPost w bd m S R (liftM d x.loss)) := by
  have HX := Lib.hid hx
  have HB := Lib.hid hB
  have hk0 := hx.k0
  have hk1 := hx.k1
  have HB1 : Hid (Box w (w.alloc (.cells x.cells 35)) w.heap.size x) := Lib.hid ⟨Nat.le_refl _, alloc_new w _⟩
  have HK1 : Hid (Keep (fun _ => False) w (w.alloc (.cells x.cells 35))) := (Keep.refl _ _).alloc _
  have c0 := HB1.out.c0
  have c2 := HB1.out.c2
  have HT := Lib.hid (twin_abs x.b x.l (HX.out.b.keep HK1.out (fun _ _ h => h)) (by have := HX.out.bl; omega))
  have HL := Lib.hid fun W3 t kb d' (h : After2 w W3 bd m kb S R d' t x) => left_post (W := w) HX.out h
  have H1 := Lib.hid fun W t kb (h : Ahead w W kb t x) => call_lift HB.out HX.out h
  have H2 := Lib.hid fun W t kb ht (h : After1 w W bd m kb S R d (liftM d x.loss) t x) => call_rlift HB.out HX.out h ht
  generalize hr : liftM d x.loss = r at H1 H2 ⊢
  clear hr
  obtain ⟨kd, name, vb, l, n, vl, loss⟩ := x
  simp only [X.cells] at HB1 HK1 HT c0 c2 hk hk0 hk1 H1 H2 HL ⊢
  clear hB hx
  go_enter Try.func7, Try.ntmps7
  go_wp2_with (first
    | (go_at_call 16; refine HT.out.mono ?_; rintro e W1 ⟨t, rfl, k1, k2, k3⟩; have A1 := Lib.hid (show Ahead w W1 w.heap.size t ⟨kd, name, vb, l, n, vl, loss⟩ from ⟨HK1.out.trans k2, k1, fun g hg => Nat.le_trans HK1.out.size (k3 g hg), HB1.out.keep k2 (fun _ _ h => h)⟩); clear k1 k2 k3; have c0' := A1.out.box.c0; have c4' := A1.out.box.c4)
    | (go_at_call 11; refine (H1.out _ _ _ A1.out).mono ?_; rintro e w3 ⟨rfl, k3⟩; have K3 := Lib.hid k3; clear k3; have c4'' := K3.out.box.c4)
    | (go_at_call 23; refine (H2.out _ _ _ A1.out.tnew K3.out).mono ?_; rintro e w4 ⟨rfl, k4⟩; have K4 := Lib.hid k4; clear k4; have c2' := K4.out.box.c2)
    | (go_at_call 28; refine (HL.out _ _ _ _ K4.out).mono ?_; rintro e w5 ⟨rfl, k5⟩; have K5 := Lib.hid k5; clear k5))
  go_ret
  exact ⟨rfl, K5.out⟩

theorem Ahead.after (hB : Both w bd m S R d) (h : Ahead w W kb t x) : After2 w W bd m kb S R d t x :=
  ⟨(Turned2.refl hB).keep h.keep, h.twin, h.box⟩

/-- What a fuse makes of a disk, by the law's own way. -/
def fuse4 (d : D) (n : Int) : D := if n.tmod 4 = 0 then fuseM d (n.tdiv 4) else d

set_option maxHeartbeats 4000000 in
theorem does_fuse (hB : Both w bd m S R d) (hx : XAt w S R x) (hk : x.kind % 8 = 5) :
    Calls Try.prog 7 #[.pointer (some ⟨bd, 0, none⟩), .pointer (some ⟨m, 0, none⟩), .agg x.cells] w (DoesPost w bd m S R (fuse4 d x.n)) := by
  have HX := Lib.hid hx
  have HB := Lib.hid hB
  have hk0 := hx.k0
  have hk1 := hx.k1
  have hn0 := hx.n0
  have hn1 := hx.n1
  have HB1 : Hid (Box w (w.alloc (.cells x.cells 35)) w.heap.size x) := Lib.hid ⟨Nat.le_refl _, alloc_new w _⟩
  have HK1 : Hid (Keep (fun _ => False) w (w.alloc (.cells x.cells 35))) := (Keep.refl _ _).alloc _
  have c0 := HB1.out.c0
  have c2 := HB1.out.c2
  have HT := Lib.hid (twin_abs x.b x.l (HX.out.b.keep HK1.out (fun _ _ h => h)) (by have := HX.out.bl; omega))
  have HL := Lib.hid fun W3 t kb d' (h : After2 w W3 bd m kb S R d' t x) => left_post (W := w) HX.out h
  have H1 := Lib.hid fun W t kb n hn (h : Ahead w W kb t x) => call_fuse HB.out h n hn
  have H2 := Lib.hid fun W t kb n hn ht (h : After1 w W bd m kb S R d (fuseM d n) t x) => call_rfuse HB.out n hn h ht
  obtain ⟨kd, name, vb, l, n, vl, loss⟩ := x
  simp only [X.cells] at HB1 HK1 HT c0 c2 hk hk0 hk1 H1 H2 HL hn0 hn1 ⊢
  clear hB hx
  by_cases hq : n.tmod 4 = 0
  · have hf : fuse4 d n = fuseM d (n.tdiv 4) := if_pos hq
    rw [hf]
    have hqb : -9223372036854775808 ≤ n.tdiv 4 ∧ n.tdiv 4 ≤ 9223372036854775807 := by
      have : (n.tdiv 4).natAbs = n.natAbs / 4 := Int.natAbs_tdiv n 4
      omega
    have HQ := Lib.hid hqb
    clear hf hqb
    go_enter Try.func7, Try.ntmps7
    go_wp2_with (first
      | (go_at_call 16; refine HT.out.mono ?_; rintro e W1 ⟨t, rfl, k1, k2, k3⟩; have A1 := Lib.hid (show Ahead w W1 w.heap.size t ⟨kd, name, vb, l, n, vl, loss⟩ from ⟨HK1.out.trans k2, k1, fun g hg => Nat.le_trans HK1.out.size (k3 g hg), HB1.out.keep k2 (fun _ _ h => h)⟩); clear k1 k2 k3; have c0' := A1.out.box.c0; have c3' := A1.out.box.c3)
      | (go_at_call 13; refine (H1.out _ _ _ _ HQ.out A1.out).mono ?_; rintro e w3 ⟨rfl, k3⟩; have K3 := Lib.hid k3; clear k3; have c3'' := K3.out.box.c3)
      | (go_at_call 22; refine (H2.out _ _ _ _ HQ.out A1.out.tnew K3.out).mono ?_; rintro e w4 ⟨rfl, k4⟩; have K4 := Lib.hid k4; clear k4; have c2' := K4.out.box.c2)
      | (go_at_call 28; refine (HL.out _ _ _ _ K4.out).mono ?_; rintro e w5 ⟨rfl, k5⟩; have K5 := Lib.hid k5; clear k5))
    go_ret
    exact ⟨rfl, K5.out⟩
  · have hf : fuse4 d n = d := if_neg hq
    rw [hf]
    clear hf
    go_enter Try.func7, Try.ntmps7
    go_wp2_with (first
      | (go_at_call 16; refine HT.out.mono ?_; rintro e W1 ⟨t, rfl, k1, k2, k3⟩; have A1 := Lib.hid (show Ahead w W1 w.heap.size t ⟨kd, name, vb, l, n, vl, loss⟩ from ⟨HK1.out.trans k2, k1, fun g hg => Nat.le_trans HK1.out.size (k3 g hg), HB1.out.keep k2 (fun _ _ h => h)⟩); clear k1 k2 k3; have c0' := A1.out.box.c0; have c3' := A1.out.box.c3; have c2' := A1.out.box.c2)
      | (go_at_call 28; refine (HL.out _ _ _ _ (A1.out.after HB.out)).mono ?_; rintro e w5 ⟨rfl, k5⟩; have K5 := Lib.hid k5; clear k5))
    go_ret
    exact ⟨rfl, K5.out⟩
end
end Go.Proofs.Ytlnlgjifepjkbaa
