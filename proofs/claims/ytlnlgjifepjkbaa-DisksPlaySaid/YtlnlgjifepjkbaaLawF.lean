/- One act on both disks: the kinds that answer an error's number. Printed by genLawF.py. -/
import Derived.Test.YtlnlgjifepjkbaaLawE
namespace Go.Proofs.Ytlnlgjifepjkbaa
open Go.RowKit
set_option maxRecDepth 20000

section
variable {w : World} {bd m : Nat} {S R : Nat → Prop} {d : D} {x : X}

theorem left_post {W W3 : World} {kb : Nat} {d' : D} {t : Value} (hx : XAt w S R x) (h : After2 w W3 bd m kb S R d' t x) :
    Calls Try.prog 28 #[t, x.b] W3 (DoesPost w bd m S R d') :=
  (left_abs t x.b x.l h.twin (hx.b2 h.turned) (by have := hx.bl; omega)).mono fun _ _ h1 => ⟨h1.1, h.turned.keep h1.2⟩

set_option maxHeartbeats 4000000 in
theorem does_add0 (hB : Both w bd m S R d) (hx : XAt w S R x) (hk : x.kind % 8 = 0) :
    Calls Try.prog 7 #[.pointer (some ⟨bd, 0, none⟩), .pointer (some ⟨m, 0, none⟩), .agg x.cells] w (DoesPost w bd m S R (addM d x.name x.l).1) := by
  have HX := Lib.hid hx
  have HB := Lib.hid hB
  have hk0 := hx.k0
  have hk1 := hx.k1
  have HB1 : Hid (Box w (w.alloc (.cells x.cells 35)) w.heap.size x) := Lib.hid ⟨Nat.le_refl _, alloc_new w _⟩
  have HK1 : Hid (Keep (fun _ => False) w (w.alloc (.cells x.cells 35))) := (Keep.refl _ _).alloc _
  have c0 := HB1.out.c0
  have c2 := HB1.out.c2
  have HT := Lib.hid (twin_abs x.b x.l (HX.out.b.keep HK1.out (fun _ _ h => h)) (by have := HX.out.bl; omega))
  have HL := Lib.hid fun W3 t kb d' (h : After2 w W3 bd m kb S R d' t x) => left_post (W := w) HX.out h
  have H1 := Lib.hid fun W t kb (h : Ahead w W kb t x) => call_add HB.out HX.out h
  have H2 := Lib.hid fun W t kb ht (h : After1 w W bd m kb S R d (addM d x.name x.l).1 t x) => call_radd HB.out HX.out h ht
  generalize hr : addM d x.name x.l = r at H1 H2 ⊢
  clear hr
  obtain ⟨kd, name, vb, l, n, vl, loss⟩ := x
  simp only [X.cells] at HB1 HK1 HT c0 c2 hk hk0 hk1 H1 H2 HL ⊢
  clear hB hx
  go_enter Try.func7, Try.ntmps7
  go_wp2_with (first | (go_at_call 16; refine HT.out.mono ?_; rintro e W1 ⟨t, rfl, k1, k2, k3⟩; have A1 := Lib.hid (show Ahead w W1 w.heap.size t ⟨kd, name, vb, l, n, vl, loss⟩ from ⟨HK1.out.trans k2, k1, fun g hg => Nat.le_trans HK1.out.size (k3 g hg), HB1.out.keep k2 (fun _ _ h => h)⟩); clear k1 k2 k3; have c0' := A1.out.box.c0))
  have A2 := Lib.hid (A1.out.drewN 1)
  go_region_held3 (fun w' => w'.cell? ⟨w.heap.size, 1, none⟩ = some (.string name) ∧ w'.cell? ⟨w.heap.size, 2, none⟩ = some vb) (first | exact ⟨A2.out.box.c1, A2.out.box.c2⟩ | exact ⟨K3.out.box.c1, K3.out.box.c2⟩ | exact ⟨K4.out.box.c1, K4.out.box.c2⟩ | go_keep) (first
    | (go_at_call 17; refine (H2.out _ _ _ A2.out.tnew K3.out).mono ?_; rintro e w4 ⟨rfl, k4⟩; have K4 := Lib.hid k4; clear k4)
    | (go_at_call 9; refine (H1.out _ _ _ A2.out).mono ?_; rintro e w3 ⟨rfl, k3⟩; have K3 := Lib.hid k3; clear k3))
  all_goals
    have c2' := K4.out.box.c2
    go_wp2_with (go_at_call 28; refine (HL.out _ _ _ _ K4.out).mono ?_; rintro e w5 ⟨rfl, k5⟩; have K5 := Lib.hid k5; clear k5)
    go_ret
    exact ⟨rfl, K5.out⟩

set_option maxHeartbeats 4000000 in
theorem does_add1 (hB : Both w bd m S R d) (hx : XAt w S R x) (hk : x.kind % 8 = 1) :
    Calls Try.prog 7 #[.pointer (some ⟨bd, 0, none⟩), .pointer (some ⟨m, 0, none⟩), .agg x.cells] w (DoesPost w bd m S R (addM d x.name x.l).1) := by
  have HX := Lib.hid hx
  have HB := Lib.hid hB
  have hk0 := hx.k0
  have hk1 := hx.k1
  have HB1 : Hid (Box w (w.alloc (.cells x.cells 35)) w.heap.size x) := Lib.hid ⟨Nat.le_refl _, alloc_new w _⟩
  have HK1 : Hid (Keep (fun _ => False) w (w.alloc (.cells x.cells 35))) := (Keep.refl _ _).alloc _
  have c0 := HB1.out.c0
  have c2 := HB1.out.c2
  have HT := Lib.hid (twin_abs x.b x.l (HX.out.b.keep HK1.out (fun _ _ h => h)) (by have := HX.out.bl; omega))
  have HL := Lib.hid fun W3 t kb d' (h : After2 w W3 bd m kb S R d' t x) => left_post (W := w) HX.out h
  have H1 := Lib.hid fun W t kb (h : Ahead w W kb t x) => call_add HB.out HX.out h
  have H2 := Lib.hid fun W t kb ht (h : After1 w W bd m kb S R d (addM d x.name x.l).1 t x) => call_radd HB.out HX.out h ht
  generalize hr : addM d x.name x.l = r at H1 H2 ⊢
  clear hr
  obtain ⟨kd, name, vb, l, n, vl, loss⟩ := x
  simp only [X.cells] at HB1 HK1 HT c0 c2 hk hk0 hk1 H1 H2 HL ⊢
  clear hB hx
  go_enter Try.func7, Try.ntmps7
  go_wp2_with (first | (go_at_call 16; refine HT.out.mono ?_; rintro e W1 ⟨t, rfl, k1, k2, k3⟩; have A1 := Lib.hid (show Ahead w W1 w.heap.size t ⟨kd, name, vb, l, n, vl, loss⟩ from ⟨HK1.out.trans k2, k1, fun g hg => Nat.le_trans HK1.out.size (k3 g hg), HB1.out.keep k2 (fun _ _ h => h)⟩); clear k1 k2 k3; have c0' := A1.out.box.c0))
  have A2 := Lib.hid (A1.out.drewN 1)
  go_region_held3 (fun w' => w'.cell? ⟨w.heap.size, 1, none⟩ = some (.string name) ∧ w'.cell? ⟨w.heap.size, 2, none⟩ = some vb) (first | exact ⟨A2.out.box.c1, A2.out.box.c2⟩ | exact ⟨K3.out.box.c1, K3.out.box.c2⟩ | exact ⟨K4.out.box.c1, K4.out.box.c2⟩ | go_keep) (first
    | (go_at_call 17; refine (H2.out _ _ _ A2.out.tnew K3.out).mono ?_; rintro e w4 ⟨rfl, k4⟩; have K4 := Lib.hid k4; clear k4)
    | (go_at_call 9; refine (H1.out _ _ _ A2.out).mono ?_; rintro e w3 ⟨rfl, k3⟩; have K3 := Lib.hid k3; clear k3))
  all_goals
    have c2' := K4.out.box.c2
    go_wp2_with (go_at_call 28; refine (HL.out _ _ _ _ K4.out).mono ?_; rintro e w5 ⟨rfl, k5⟩; have K5 := Lib.hid k5; clear k5)
    go_ret
    exact ⟨rfl, K5.out⟩

set_option maxHeartbeats 4000000 in
theorem does_sure (hB : Both w bd m S R d) (hx : XAt w S R x) (hk : x.kind % 8 = 2) :
    Calls Try.prog 7 #[.pointer (some ⟨bd, 0, none⟩), .pointer (some ⟨m, 0, none⟩), .agg x.cells] w (DoesPost w bd m S R (sureM d x.name).1) := by
  have HX := Lib.hid hx
  have HB := Lib.hid hB
  have hk0 := hx.k0
  have hk1 := hx.k1
  have HB1 : Hid (Box w (w.alloc (.cells x.cells 35)) w.heap.size x) := Lib.hid ⟨Nat.le_refl _, alloc_new w _⟩
  have HK1 : Hid (Keep (fun _ => False) w (w.alloc (.cells x.cells 35))) := (Keep.refl _ _).alloc _
  have c0 := HB1.out.c0
  have c2 := HB1.out.c2
  have HT := Lib.hid (twin_abs x.b x.l (HX.out.b.keep HK1.out (fun _ _ h => h)) (by have := HX.out.bl; omega))
  have HL := Lib.hid fun W3 t kb d' (h : After2 w W3 bd m kb S R d' t x) => left_post (W := w) HX.out h
  have H1 := Lib.hid fun W t kb (h : Ahead w W kb t x) => call_sure HB.out HX.out h
  have H2 := Lib.hid fun W t kb ht (h : After1 w W bd m kb S R d (sureM d x.name).1 t x) => call_rsure HB.out HX.out h ht
  generalize hr : sureM d x.name = r at H1 H2 ⊢
  clear hr
  obtain ⟨kd, name, vb, l, n, vl, loss⟩ := x
  simp only [X.cells] at HB1 HK1 HT c0 c2 hk hk0 hk1 H1 H2 HL ⊢
  clear hB hx
  go_enter Try.func7, Try.ntmps7
  go_wp2_with (first | (go_at_call 16; refine HT.out.mono ?_; rintro e W1 ⟨t, rfl, k1, k2, k3⟩; have A1 := Lib.hid (show Ahead w W1 w.heap.size t ⟨kd, name, vb, l, n, vl, loss⟩ from ⟨HK1.out.trans k2, k1, fun g hg => Nat.le_trans HK1.out.size (k3 g hg), HB1.out.keep k2 (fun _ _ h => h)⟩); clear k1 k2 k3; have c0' := A1.out.box.c0))
  have A2 := Lib.hid (A1.out.drewN 1)
  go_region_held3 (fun w' => w'.cell? ⟨w.heap.size, 1, none⟩ = some (.string name) ∧ w'.cell? ⟨w.heap.size, 2, none⟩ = some vb) (first | exact ⟨A2.out.box.c1, A2.out.box.c2⟩ | exact ⟨K3.out.box.c1, K3.out.box.c2⟩ | exact ⟨K4.out.box.c1, K4.out.box.c2⟩ | go_keep) (first
    | (go_at_call 18; refine (H2.out _ _ _ A2.out.tnew K3.out).mono ?_; rintro e w4 ⟨rfl, k4⟩; have K4 := Lib.hid k4; clear k4)
    | (go_at_call 10; refine (H1.out _ _ _ A2.out).mono ?_; rintro e w3 ⟨rfl, k3⟩; have K3 := Lib.hid k3; clear k3))
  all_goals
    have c2' := K4.out.box.c2
    go_wp2_with (go_at_call 28; refine (HL.out _ _ _ _ K4.out).mono ?_; rintro e w5 ⟨rfl, k5⟩; have K5 := Lib.hid k5; clear k5)
    go_ret
    exact ⟨rfl, K5.out⟩

set_option maxHeartbeats 4000000 in
theorem does_put (hB : Both w bd m S R d) (hx : XAt w S R x) (hk : x.kind % 8 = 3) :
    Calls Try.prog 7 #[.pointer (some ⟨bd, 0, none⟩), .pointer (some ⟨m, 0, none⟩), .agg x.cells] w (DoesPost w bd m S R (putM d x.name x.l).1) := by
  have HX := Lib.hid hx
  have HB := Lib.hid hB
  have hk0 := hx.k0
  have hk1 := hx.k1
  have HB1 : Hid (Box w (w.alloc (.cells x.cells 35)) w.heap.size x) := Lib.hid ⟨Nat.le_refl _, alloc_new w _⟩
  have HK1 : Hid (Keep (fun _ => False) w (w.alloc (.cells x.cells 35))) := (Keep.refl _ _).alloc _
  have c0 := HB1.out.c0
  have c2 := HB1.out.c2
  have HT := Lib.hid (twin_abs x.b x.l (HX.out.b.keep HK1.out (fun _ _ h => h)) (by have := HX.out.bl; omega))
  have HL := Lib.hid fun W3 t kb d' (h : After2 w W3 bd m kb S R d' t x) => left_post (W := w) HX.out h
  have H1 := Lib.hid fun W t kb (h : Ahead w W kb t x) => call_put HB.out HX.out h
  have H2 := Lib.hid fun W t kb ht (h : After1 w W bd m kb S R d (putM d x.name x.l).1 t x) => call_rput HB.out HX.out h ht
  generalize hr : putM d x.name x.l = r at H1 H2 ⊢
  clear hr
  obtain ⟨kd, name, vb, l, n, vl, loss⟩ := x
  simp only [X.cells] at HB1 HK1 HT c0 c2 hk hk0 hk1 H1 H2 HL ⊢
  clear hB hx
  go_enter Try.func7, Try.ntmps7
  go_wp2_with (first | (go_at_call 16; refine HT.out.mono ?_; rintro e W1 ⟨t, rfl, k1, k2, k3⟩; have A1 := Lib.hid (show Ahead w W1 w.heap.size t ⟨kd, name, vb, l, n, vl, loss⟩ from ⟨HK1.out.trans k2, k1, fun g hg => Nat.le_trans HK1.out.size (k3 g hg), HB1.out.keep k2 (fun _ _ h => h)⟩); clear k1 k2 k3; have c0' := A1.out.box.c0))
  have A2 := Lib.hid (A1.out.drewN 1)
  go_region_held3 (fun w' => w'.cell? ⟨w.heap.size, 1, none⟩ = some (.string name) ∧ w'.cell? ⟨w.heap.size, 2, none⟩ = some vb) (first | exact ⟨A2.out.box.c1, A2.out.box.c2⟩ | exact ⟨K3.out.box.c1, K3.out.box.c2⟩ | exact ⟨K4.out.box.c1, K4.out.box.c2⟩ | go_keep) (first
    | (go_at_call 19; refine (H2.out _ _ _ A2.out.tnew K3.out).mono ?_; rintro e w4 ⟨rfl, k4⟩; have K4 := Lib.hid k4; clear k4)
    | (go_at_call 14; refine (H1.out _ _ _ A2.out).mono ?_; rintro e w3 ⟨rfl, k3⟩; have K3 := Lib.hid k3; clear k3))
  all_goals
    have c2' := K4.out.box.c2
    go_wp2_with (go_at_call 28; refine (HL.out _ _ _ _ K4.out).mono ?_; rintro e w5 ⟨rfl, k5⟩; have K5 := Lib.hid k5; clear k5)
    go_ret
    exact ⟨rfl, K5.out⟩

set_option maxHeartbeats 4000000 in
theorem does_drop (hB : Both w bd m S R d) (hx : XAt w S R x) (hk : x.kind % 8 = 4) :
    Calls Try.prog 7 #[.pointer (some ⟨bd, 0, none⟩), .pointer (some ⟨m, 0, none⟩), .agg x.cells] w (DoesPost w bd m S R (dropM d x.name).1) := by
  have HX := Lib.hid hx
  have HB := Lib.hid hB
  have hk0 := hx.k0
  have hk1 := hx.k1
  have HB1 : Hid (Box w (w.alloc (.cells x.cells 35)) w.heap.size x) := Lib.hid ⟨Nat.le_refl _, alloc_new w _⟩
  have HK1 : Hid (Keep (fun _ => False) w (w.alloc (.cells x.cells 35))) := (Keep.refl _ _).alloc _
  have c0 := HB1.out.c0
  have c2 := HB1.out.c2
  have HT := Lib.hid (twin_abs x.b x.l (HX.out.b.keep HK1.out (fun _ _ h => h)) (by have := HX.out.bl; omega))
  have HL := Lib.hid fun W3 t kb d' (h : After2 w W3 bd m kb S R d' t x) => left_post (W := w) HX.out h
  have H1 := Lib.hid fun W t kb (h : Ahead w W kb t x) => call_drop HB.out HX.out h
  have H2 := Lib.hid fun W t kb ht (h : After1 w W bd m kb S R d (dropM d x.name).1 t x) => call_rdrop HB.out HX.out h ht
  generalize hr : dropM d x.name = r at H1 H2 ⊢
  clear hr
  obtain ⟨kd, name, vb, l, n, vl, loss⟩ := x
  simp only [X.cells] at HB1 HK1 HT c0 c2 hk hk0 hk1 H1 H2 HL ⊢
  clear hB hx
  go_enter Try.func7, Try.ntmps7
  go_wp2_with (first | (go_at_call 16; refine HT.out.mono ?_; rintro e W1 ⟨t, rfl, k1, k2, k3⟩; have A1 := Lib.hid (show Ahead w W1 w.heap.size t ⟨kd, name, vb, l, n, vl, loss⟩ from ⟨HK1.out.trans k2, k1, fun g hg => Nat.le_trans HK1.out.size (k3 g hg), HB1.out.keep k2 (fun _ _ h => h)⟩); clear k1 k2 k3; have c0' := A1.out.box.c0))
  have A2 := Lib.hid (A1.out.drewN 1)
  go_region_held3 (fun w' => w'.cell? ⟨w.heap.size, 1, none⟩ = some (.string name) ∧ w'.cell? ⟨w.heap.size, 2, none⟩ = some vb) (first | exact ⟨A2.out.box.c1, A2.out.box.c2⟩ | exact ⟨K3.out.box.c1, K3.out.box.c2⟩ | exact ⟨K4.out.box.c1, K4.out.box.c2⟩ | go_keep) (first
    | (go_at_call 21; refine (H2.out _ _ _ A2.out.tnew K3.out).mono ?_; rintro e w4 ⟨rfl, k4⟩; have K4 := Lib.hid k4; clear k4)
    | (go_at_call 20; refine (H1.out _ _ _ A2.out).mono ?_; rintro e w3 ⟨rfl, k3⟩; have K3 := Lib.hid k3; clear k3))
  all_goals
    have c2' := K4.out.box.c2
    go_wp2_with (go_at_call 28; refine (HL.out _ _ _ _ K4.out).mono ?_; rintro e w5 ⟨rfl, k5⟩; have K5 := Lib.hid k5; clear k5)
    go_ret
    exact ⟨rfl, K5.out⟩
end
end Go.Proofs.Ytlnlgjifepjkbaa
