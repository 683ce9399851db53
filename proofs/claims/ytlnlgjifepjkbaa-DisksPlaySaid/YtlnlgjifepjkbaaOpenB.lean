/- The acts that came in. -/
import Derived.Test.YtlnlgjifepjkbaaOpenA
import Derived.Test.YtlnlgjifepjkbaaLawD
namespace Go.Proofs.Ytlnlgjifepjkbaa
open Go.RowKit
set_option maxRecDepth 20000

/-- An act that came in. -/
structure XIn (w : World) (x : X) : Prop where
  k0 : 0 ≤ x.kind
  k1 : x.kind ≤ 255
  nm : x.name.size ≤ reachBytes
  b : Sl w 1 x.b x.l.length (bv x.l)
  bl : x.l.length ≤ reachBytes
  bS : ∀ g, blk x.b = some g → x.l ≠ [] → g < w.heap.size
  n0 : -9223372036854775808 ≤ x.n
  n1 : x.n ≤ 9223372036854775807
  lo : Sl w 1 x.lo x.loss.length (iv x.loss)
  lol : x.loss.length ≤ reachBytes
  loS : ∀ g, blk x.lo = some g → x.loss ≠ [] → g < w.heap.size
  loN : ∀ i ∈ x.loss, -9223372036854775808 ≤ i ∧ i ≤ 9223372036854775807
/-- A list of acts that came in. -/
structure ActsIn (w : World) (v : Value) (xs : List X) : Prop where
  sl : Sl w 5 v xs.length (xs.flatMap fun x => x.cells.toList)
  each : ∀ x ∈ xs, XIn w x
instance : Inhabited X := ⟨⟨0, ByteArray.empty, .slice none 0 0, [], 0, .slice none 0 0, []⟩⟩

theorem cellsOfU8 : Try.prog.cellsOf 5 = 1 := by kernel_rfl
theorem cellsOfInt : Try.prog.cellsOf 3 = 1 := by kernel_rfl
theorem cellsOfStr : Try.prog.cellsOf 9 = 1 := by kernel_rfl
theorem cellsOfBytes : Try.prog.cellsOf 32 = 1 := by kernel_rfl
theorem cellsOfInts : Try.prog.cellsOf 33 = 1 := by kernel_rfl
theorem cellsOfAct : Try.prog.cellsOf 35 = 5 := by kernel_rfl
theorem bytesOfU8 : Try.prog.bytesOf 5 = 1 := by kernel_rfl
theorem bytesOfInt : Try.prog.bytesOf 3 = 8 := by kernel_rfl

section
variable {H : Type} {enc : TypeId × Value → H} {w : World}

theorem open_act {fuel : Nat} {cs : List Value} {x : DataW H × List MemPlace} (h : DataW.trod enc Try.prog w 0 (fun _ => true) true fuel 35 cs = some x) (hfit : Fit Try.prog 35 x.1) : ∃ y : X, cs = y.cells.toList ∧ XIn w y := by
  obtain ⟨xs, n, rfl, rfl, hl, hxl, hx⟩ := DataW.trod_struct Try.underlying35 h
  rw [cellsOfAct] at hl
  match cs, hl with
  | [c0, c1, c2, c3, c4], _ =>
    match xs, hxl with
    | [y0, y1, y2, y3, y4], _ =>
      have g0 : DataW.trod enc Try.prog w 0 (fun _ => true) true n 5 ((List.drop 0 [c0, c1, c2, c3, c4]).take (Try.prog.cellsOf 5)) = some y0 := hx 0 _ rfl
      have g1 : DataW.trod enc Try.prog w 0 (fun _ => true) true n 9 ((List.drop 1 [c0, c1, c2, c3, c4]).take (Try.prog.cellsOf 9)) = some y1 := hx 1 _ rfl
      have g2 : DataW.trod enc Try.prog w 0 (fun _ => true) true n 32 ((List.drop 2 [c0, c1, c2, c3, c4]).take (Try.prog.cellsOf 32)) = some y2 := hx 2 _ rfl
      have g3 : DataW.trod enc Try.prog w 0 (fun _ => true) true n 3 ((List.drop 3 [c0, c1, c2, c3, c4]).take (Try.prog.cellsOf 3)) = some y3 := hx 3 _ rfl
      have g4 : DataW.trod enc Try.prog w 0 (fun _ => true) true n 33 ((List.drop 4 [c0, c1, c2, c3, c4]).take (Try.prog.cellsOf 33)) = some y4 := hx 4 _ rfl
      rw [cellsOfU8] at g0
      rw [cellsOfStr] at g1
      rw [cellsOfBytes] at g2
      rw [cellsOfInt] at g3
      rw [cellsOfInts] at g4
      change DataW.trod enc Try.prog w 0 (fun _ => true) true n 5 [c0] = some y0 at g0
      change DataW.trod enc Try.prog w 0 (fun _ => true) true n 9 [c1] = some y1 at g1
      change DataW.trod enc Try.prog w 0 (fun _ => true) true n 32 [c2] = some y2 at g2
      change DataW.trod enc Try.prog w 0 (fun _ => true) true n 3 [c3] = some y3 at g3
      change DataW.trod enc Try.prog w 0 (fun _ => true) true n 33 [c4] = some y4 at g4
      obtain ⟨kd, rfl, k0, k1⟩ := open_int Try.underlying5 g0
      obtain ⟨nm, rfl, hnm⟩ := open_str Try.underlying9 g1 (hfit.struct Try.underlying35 1 (d := y1.1) rfl rfl)
      obtain ⟨vb, l, e2, b1, b2, b3⟩ := open_bytes Try.underlying32 Try.underlying5 cellsOfU8 (by rw [bytesOfU8]; decide) g2 (hfit.struct Try.underlying35 2 (d := y2.1) rfl rfl)
      obtain ⟨m, rfl, n0, n1⟩ := open_int Try.underlying3 g3
      obtain ⟨vl, loss, e4, l1, l2, l3, l4⟩ := open_intl Try.underlying33 Try.underlying3 cellsOfInt (by rw [bytesOfInt]; decide) g4 (hfit.struct Try.underlying35 4 (d := y4.1) rfl rfl)
      obtain rfl : c2 = vb := by simpa using e2
      obtain rfl : c4 = vl := by simpa using e4
      exact ⟨⟨kd, nm, c2, l, m, c4, loss⟩, rfl, ⟨k0, k1, hnm, b1, b2, b3, n0, n1, l1, l2, l3, l4⟩⟩

theorem flat_get (xs : List X) {i r : Nat} (h : i < xs.length) (hr : r < 5) : (xs.flatMap fun x => x.cells.toList)[i * 5 + r]? = xs[i].cells.toList[r]? := by
  induction xs generalizing i with
  | nil => simp at h
  | cons x xs ih =>
    have hl : x.cells.toList.length = 5 := rfl
    rw [List.flatMap_cons]
    cases i with
    | zero => rw [List.getElem?_append_left (by omega)]; simp
    | succ i =>
      rw [List.getElem?_append_right (by omega), show (i + 1) * 5 + r - x.cells.toList.length = i * 5 + r from by omega]
      exact ih (by simpa using h)
theorem flat_length (xs : List X) : (xs.flatMap fun x => x.cells.toList).length = xs.length * 5 := by
  induction xs with
  | nil => rfl
  | cons x xs ih =>
    have hl : x.cells.toList.length = 5 := rfl
    rw [List.flatMap_cons, List.length_append, ih, List.length_cons]
    omega

theorem open_acts {v : Value} {d : DataW H} {ps : List MemPlace} (hv : ∃ a n c, v = .slice a n c) (h : DataW.Trod enc Try.prog w 0 (fun _ => true) true 22 v d ps) (hfit : Fit Try.prog 22 d) : ∃ xs, ActsIn w v xs := by
  obtain ⟨fuel, h⟩ := h
  obtain ⟨a0, n0, c0, rfl⟩ := hv
  rcases Go.Deep.open_slice Try.underlying22 h with ⟨e, _⟩ | ⟨a, len, cap, m, n, D, Pl, e, _, hl, hm, hmm, hxx, hx⟩
  · have e : Value.slice a0 n0 c0 = .slice none 0 0 := by simpa [Value.cells] using e
    cases e
    exact ⟨[], ⟨by simp, none, 0, rfl, Nat.le_refl _, Nat.zero_le _, fun h => absurd rfl h⟩, fun x hx => by cases hx⟩
  · have e : Value.slice a0 n0 c0 = .slice (some a) len cap := by simpa [Value.cells] using e
    cases e
    have hmc : m = c0 := by simpa using hmm
    have hxd : d = .slice ((List.range n0).map D) ((List.range (m - n0)).map fun j => D (n0 + j)) := (Prod.mk.inj hxx).1
    subst hxd
    have hf := (hfit.slice Try.underlying22).2
    rw [cellsOfAct] at hx
    obtain ⟨Y, hY⟩ := Go.Deep.choose_lt (α := X) (n := n0) (p := fun i y => w.cells? 0 (a.add (i * 5)) 5 = some y.cells.toList ∧ XIn w y) (fun i hi => by
      obtain ⟨cs', h1, h2⟩ := hx i (by omega)
      obtain ⟨y, rfl, hy⟩ := open_act h2 (hf _ (List.mem_map.2 ⟨i, by simpa using hi, rfl⟩))
      exact ⟨y, h1, hy⟩)
    have hlen : ((List.range n0).map Y).length = n0 := by simp
    refine ⟨(List.range n0).map Y, ⟨by rw [flat_length], some a, c0, by rw [hlen], by rw [hlen]; omega, hm, fun hne => ?_⟩, fun x hx => ?_⟩
    · have hpos : 0 < n0 := by
        rcases Nat.eq_zero_or_pos n0 with rfl | h
        · simp at hne
        · exact h
      have hcell : ∀ i, i < n0 → ∀ r, r < 5 → w.cell? ((a.add (i * 5)).add r) = (Y i).cells.toList[r]? := fun i hi r hr => (World.cells?_some (hY i hi).1).2.2 r hr
      obtain ⟨b, off, sp⟩ := a
      have hsp : sp = none := by
        have h0 := hcell 0 hpos 0 (by omega)
        have h1 : (Y 0).cells.toList[0]? = some (.int .u8 (Y 0).kind) := rfl
        rw [h1] at h0
        simpa [Addr.add] using spot_none h0
      subst hsp
      refine ⟨b, off, rfl, fun j u hu => ?_⟩
      have hj : j < n0 * 5 := by
        have := (List.getElem?_eq_some_iff.1 hu).1
        rw [flat_length, hlen] at this
        exact this
      have hi : j / 5 < n0 := by omega
      have hc := hcell (j / 5) hi (j % 5) (by omega)
      rw [add_lit, add_lit, show off + j / 5 * 5 + j % 5 = off + j from by omega] at hc
      rw [hc]
      have hg := flat_get ((List.range n0).map Y) (i := j / 5) (r := j % 5) (by omega) (by omega)
      rw [show j / 5 * 5 + j % 5 = j from by omega, hu] at hg
      rw [hg]
      simp
    · obtain ⟨i, hi, rfl⟩ := List.mem_map.1 hx
      exact (hY i (by simpa using hi)).2
end
end Go.Proofs.Ytlnlgjifepjkbaa
