/- One act on both disks: Read, and the book. -/
import Derived.Test.YtlnlgjifepjkbaaLawG
namespace Go.Proofs.Ytlnlgjifepjkbaa
open Go.RowKit
set_option maxRecDepth 20000

section
variable {w W : World} {bd m kb : Nat} {S R : Nat → Prop} {d : D} {x : X} {t : Value}

theorem Ahead.next {W' : World} (h : Ahead w W kb t x) (k : Keep (fun _ => False) W W') : Ahead w W' kb t x :=
  ⟨h.keep.trans k, h.twin.keep k (fun _ _ h => h), h.tnew, h.box.keep k (fun _ _ h => h)⟩
theorem Twin.lt {v : Value} {l : List UInt8} (h : Twin w v l) {g : Nat} (hg : blk v = some g) : g < w.heap.size := by
  obtain ⟨g', c, e, h1, h2, _⟩ := h.room
  obtain ⟨a, c', rfl, ho⟩ := h
  cases e
  have e : g = g' := by simpa [blk] using hg.symm
  subst e
  exact ho.lt (by simp [own]; omega)

/-- A book in new memory, and what is read ahead of it. -/
structure Held (w W : World) (kb : Nat) (t : Value) (x : X) (k : Nat) (pv : Value) (ps : List Value) (a1 a2 : Option Addr) (n c2 : Nat) (ql : List UInt8) : Prop where
  ahead : Ahead w W kb t x
  tk : ∀ g, blk t = some g → g < k
  kbk : kb < k
  book : BookAt W k pv ps
  knew : w.heap.size ≤ k
  pvk : ∀ g, own pv = some g → k < g
  a : Own W 5 1 (.slice a1 n n) n (bv ql)
  alt : ∀ g, own (.slice a1 n n) = some g → w.heap.size ≤ g ∧ g < k
  b : Own W 5 1 (.slice a2 n c2) n (bv ql)
  blt : ∀ g, own (.slice a2 n c2) = some g → g < k

variable {k : Nat} {pv : Value} {ps : List Value} {a1 a2 a3 : Option Addr} {n c2 : Nat} {ql : List UInt8}

theorem Held.next {W' : World} (h : Held w W kb t x k pv ps a1 a2 n c2 ql) (kp : Keep (fun _ => False) W W') : Held w W' kb t x k pv ps a1 a2 n c2 ql :=
  ⟨h.ahead.next kp, h.tk, h.kbk, h.book.keep kp (fun h => h) (fun _ _ h => h), h.knew, h.pvk, h.a.keep kp (fun _ _ h => h), h.alt, h.b.keep kp (fun _ _ h => h), h.blt⟩
theorem Held.turn {W' : World} {ps' : List Value} (h : Held w W kb t x k pv ps a1 a2 n c2 ql) {pv' : Value} (hb : BookAt W' k pv' ps') (kp : Keep (fun i => i = k ∨ own pv = some i) W W') (ho : ∀ g, own pv' = some g → own pv = some g ∨ W.heap.size ≤ g) : Held w W' kb t x k pv' ps' a1 a2 n c2 ql := by
  have hk := lt_of_heap h.book.book
  have hlt : ∀ i, i < k → ¬ (i = k ∨ own pv = some i) := by
    rintro i hi (e | e)
    · omega
    · have := h.pvk i e
      omega
  refine ⟨⟨h.ahead.keep.trans' kp (fun _ _ h => h) (fun i hi e => hlt i (Nat.lt_of_lt_of_le hi h.knew) e), h.ahead.twin.keep kp (fun g hg => hlt g (h.tk g hg)), h.ahead.tnew, ⟨h.ahead.box.new, kp.obj h.ahead.box.at_ (hlt kb h.kbk)⟩⟩, h.tk, h.kbk, hb, h.knew, fun g hg => ?_, h.a.keep kp (fun g hg => hlt g (h.alt g hg).2), h.alt, h.b.keep kp (fun g hg => hlt g (h.blt g hg)), h.blt⟩
  rcases ho g hg with h1 | h1
  · exact h.pvk g h1
  · omega
/-- A list that is read behind the book's making. -/
theorem Held.late {W' : World} (h : Held w W kb t x k pv ps a1 a2 n c2 ql) (hc : Own W 5 1 (.slice a3 n n) n (bv ql)) (hn : ∀ g, own (.slice a3 n n) = some g → k < g) (kp : Keep (fun i => i = k ∨ own pv = some i) W W') : Own W' 5 1 (.slice a3 n n) n (bv ql) := by
  refine hc.keep kp (fun g hg => ?_)
  rintro (e | e)
  · have := hn g hg
    omega
  · obtain ⟨cur, h1⟩ := hc.elem hg
    obtain ⟨cur', h2⟩ := h.book.pages.elem e
    rw [h1] at h2
    simp at h2
theorem Held.twoOf (h : Held w W kb t x k pv ([page (.slice a1 n n) 1 129] ++ [page (.slice a3 n n) 2 130]) a1 a2 n c2 ql) (hc : Own W 5 1 (.slice a3 n n) n (bv ql)) (hn : ∀ g, own (.slice a3 n n) = some g → k < g) : Two W k pv a1 a3 n n ql ql := by
  refine ⟨h.book, h.a, hc, fun g hg e => ?_, fun e => ?_, fun e => ?_⟩
  · have := (h.alt g hg).2
    have := hn g e
    omega
  · have := (h.alt k e).2
    omega
  · have := hn k e
    omega
theorem Held.after {W' : World} (hB : Both w bd m S R d) (h : Held w W kb t x k pv ps a1 a2 n c2 ql) (hn : ∀ g, own (.slice a3 n n) = some g → k < g) (kp : Keep (fun i => own (.slice a1 n n) = some i ∨ own (.slice a3 n n) = some i) W W') (hta : ∀ g, blk t = some g → own (.slice a1 n n) ≠ some g) (hkba : own (.slice a1 n n) ≠ some kb) : After2 w W' bd m kb S R d t x := by
  have k0 : Keep (fun _ => False) w W' := h.ahead.keep.trans' kp (fun _ _ h => h) (by
    rintro i hi (e | e)
    · have := (h.alt i e).1; omega
    · have := hn i e; have := h.knew; omega)
  refine ⟨(Turned2.refl hB).keep k0, h.ahead.twin.keep kp (fun g hg => ?_), ⟨h.ahead.box.new, kp.obj h.ahead.box.at_ ?_⟩⟩
  · rintro (e | e)
    · exact hta g hg e
    · have := hn g e; have := h.tk g hg; omega
  · rintro (e | e)
    · exact hkba e
    · have := hn kb e; have := h.kbk; omega

set_option maxHeartbeats 4000000 in
theorem does_read (hB : Both w bd m S R d) (hx : XAt w S R x) (hk : x.kind % 8 = 7) :
    Calls Try.prog 7 #[.pointer (some ⟨bd, 0, none⟩), .pointer (some ⟨m, 0, none⟩), .agg x.cells] w (DoesPost w bd m S R d) := by
  have HX := Lib.hid hx
  have HB := Lib.hid hB
  have hk0 := hx.k0
  have hk1 := hx.k1
  have HB1 : Hid (Box w (w.alloc (.cells x.cells 35)) w.heap.size x) := Lib.hid ⟨Nat.le_refl _, alloc_new w _⟩
  have HK1 : Hid (Keep (fun _ => False) w (w.alloc (.cells x.cells 35))) := (Keep.refl _ _).alloc _
  have c0 := HB1.out.c0
  have c2 := HB1.out.c2
  have HT := Lib.hid (twin_abs x.b x.l (HX.out.b.keep HK1.out (fun _ _ h => h)) (by have := HX.out.bl; omega))
  have HL := Lib.hid fun W3 t kb d' (h : After2 w W3 bd m kb S R d' t x) => left_post (W := w) HX.out h
  have hrl : (readM d x.name).1.length ≤ 1048576 := by
    unfold readM
    split
    · simp
    · split
      · rename_i f hf
        exact (hB.p.ok.file f (findM_some hf).1).2
      · simp
  have H1 := Lib.hid fun W (k : Keep (fun _ => False) w W) => read_abs (hB.p.keep k (fun _ _ h => h)) x.name
  have H2 := Lib.hid fun W (k : Keep (fun _ => False) w W) => rread_abs (hB.r.keep k (fun _ _ h => h)) x.name
  obtain ⟨q, hq⟩ : ∃ q, readM d x.name = q := ⟨_, rfl⟩
  rw [hq] at hrl H1 H2
  obtain ⟨ql, qe⟩ := q
  clear hq
  obtain ⟨kd, name, vb, l, n, vl, loss⟩ := x
  simp only [X.cells] at HB1 HK1 HT c0 c2 hk hk0 hk1 H1 H2 HL hrl ⊢
  clear hB hx
  go_enter Try.func7, Try.ntmps7
  go_wp2_with (go_at_call 16; refine HT.out.mono ?_; rintro e W1 ⟨t, rfl, k1, k2, k3⟩; have A1 := Lib.hid (show Ahead w W1 w.heap.size t ⟨kd, name, vb, l, n, vl, loss⟩ from ⟨HK1.out.trans k2, k1, fun g hg => Nat.le_trans HK1.out.size (k3 g hg), HB1.out.keep k2 (fun _ _ h => h)⟩); clear k1 k2 k3; have c0' := A1.out.box.c0; have c1' := A1.out.box.c1)
  have H1' := H1
  clear H1
  refine (H1'.out W1 A1.out.keep).mono ?_
  rintro e W2 ⟨a1, rfl, r1, r2, r3⟩
  simp only at r1 r2 r3 ⊢
  have A2 := Lib.hid (A1.out.next r2)
  have HA := Lib.hid r1
  have HAN := Lib.hid (show ∀ g, own (.slice a1 ql.length ql.length) = some g → W1.heap.size ≤ g from fun g hg => r3 g (own_blk hg))
  have c1'' := A2.out.box.c1
  clear r1 r2 r3
  go_wp2_with fail
  refine (H2.out W2 A2.out.keep).mono ?_
  rintro e W3 ⟨a2, cc, rfl, s1, s2⟩
  simp only at s1 s2 ⊢
  have A3 := Lib.hid (A2.out.next s2)
  have HA3 := Lib.hid (HA.out.keep s2 (fun _ _ h => h))
  have HBO := Lib.hid s1
  clear s1 s2
  go_wp2_with fail
  have k0 : Keep (fun _ => False) W3 (W3.alloc (.cells #[.slice none 0 0] 50)) := (Keep.refl _ _).alloc _
  have HH0 := Lib.hid (show Held w (W3.alloc (.cells #[.slice none 0 0] 50)) w.heap.size t ⟨kd, name, vb, l, n, vl, loss⟩ W3.heap.size (.slice none 0 0) [] a1 a2 ql.length cc ql from
    ⟨A3.out.next k0, fun g hg => A3.out.twin.lt hg, lt_of_heap A3.out.box.at_, ⟨alloc_new W3 _, Own.nil _ _ _⟩, A3.out.keep.size, by simp [own], HA3.out.keep k0 (fun _ _ h => h), fun g hg => ⟨Nat.le_trans A1.out.keep.size (HAN.out g hg), HA3.out.lt hg⟩, HBO.out.keep k0 (fun _ _ h => h), fun g hg => HBO.out.lt hg⟩)
  clear k0
  refine (bytes_one HH0.out.book a1 ql.length).mono ?_
  rintro e W5 ⟨rfl, pv, b1, b2, b3⟩
  have HH1 := Lib.hid (HH0.out.turn b1 b2 b3)
  have q1 := HH1.out.ahead.box.c1
  clear b1 b2 b3
  go_wp2_with fail
  refine (H1'.out W5 HH1.out.ahead.keep).mono ?_
  rintro e W6 ⟨a3, rfl, r1, r2, r3⟩
  simp only at r1 r2 r3 ⊢
  have HH2 := Lib.hid (HH1.out.next r2)
  have HC := Lib.hid r1
  have HCN := Lib.hid (show ∀ g, own (.slice a3 ql.length ql.length) = some g → W3.heap.size < g from fun g hg => Nat.lt_of_lt_of_le (lt_of_heap HH1.out.book.book) (r3 g (own_blk hg)))
  clear r1 r2 r3
  go_wp2_with fail
  refine (bytes_two HH2.out.book a3 ql.length).mono ?_
  rintro e W7 ⟨rfl, pv2, b1, b2, b3⟩
  have HH3 := Lib.hid (HH2.out.turn b1 b2 b3)
  have HC3 := Lib.hid (HH2.out.late HC.out HCN.out b2)
  clear b1 b2 b3
  go_wp2_with fail
  refine (same_abs _ _ ql ql HH3.out.a.sl HH3.out.b.sl).mono ?_
  rintro e W8 ⟨rfl, k8⟩
  have HH4 := Lib.hid (HH3.out.next k8)
  have HC4 := Lib.hid (HC3.out.keep k8 (fun _ _ h => h))
  clear k8
  rw [decide_eq_true (rfl : ql = ql)]
  go_wp2_with fail
  refine (apart_abs (HH4.out.twoOf HC4.out HCN.out) (by omega) (by omega)).mono ?_
  rintro e W9 ⟨rfl, k9⟩
  have HF := Lib.hid (HH4.out.after HB.out HCN.out k9 (fun g hg e => by have := HAN.out g e; have := A1.out.twin.lt hg; omega) (fun e => by have := HAN.out _ e; have := lt_of_heap A1.out.box.at_; omega))
  have q2 := HF.out.box.c2
  clear k9
  go_wp2_with (go_at_call 28; refine (HL.out _ _ _ _ HF.out).mono ?_; rintro e w5 ⟨rfl, k5⟩; have K5 := Lib.hid k5; clear k5)
  go_ret
  exact ⟨rfl, K5.out⟩
end
end Go.Proofs.Ytlnlgjifepjkbaa
