/- Great. -/
import Derived.Test.YtlnlgjifepjkbaaOpenB
import Derived.Test.YtlnlgjifepjkbaaLivesA
namespace Go.Proofs.Ytlnlgjifepjkbaa
open Go.RowKit
set_option maxRecDepth 20000

section
variable {w w' : World} {v : Value} {xs : List X}

theorem XIn.keep {x : X} (h : XIn w x) (k : Keep (fun _ => False) w w') : XIn w' x :=
  ⟨h.k0, h.k1, h.nm, h.b.keep k (fun _ _ h => h), h.bl, fun g hg hne => Nat.lt_of_lt_of_le (h.bS g hg hne) k.size, h.n0, h.n1, h.lo.keep k (fun _ _ h => h), h.lol, fun g hg hne => Nat.lt_of_lt_of_le (h.loS g hg hne) k.size, h.loN⟩
theorem ActsIn.keep (h : ActsIn w v xs) (k : Keep (fun _ => False) w w') : ActsIn w' v xs := ⟨h.sl.keep k (fun _ _ h => h), fun x hx => (h.each x hx).keep k⟩
theorem ActsIn.at (h : ActsIn w v xs) {k : Nat} (hk : k < xs.length) : ∃ g off c, v = .slice (some ⟨g, off, none⟩) xs.length c ∧ ∀ r u, xs[k].cells[r]? = some u → w.cell? ⟨g, off + k * 5 + r, none⟩ = some u := by
  obtain ⟨_, a, c, rfl, _, _, hr⟩ := h.sl
  have h0 := flat_get xs hk (r := 0) (by omega)
  have h1 : xs[k].cells.toList[0]? = some (.int .u8 xs[k].kind) := rfl
  rw [h1] at h0
  obtain ⟨g, off, rfl, hc⟩ := hr (fun e => by rw [e] at h0; cases h0)
  refine ⟨g, off, c, rfl, fun r u hu => ?_⟩
  have hr5 : r < 5 := (Array.getElem?_eq_some_iff.1 hu).1
  have := hc (k * 5 + r) u (by rw [flat_get xs hk hr5]; simpa using hu)
  rwa [← Nat.add_assoc] at this

/-- How much an act holds. -/
def xsize (x : X) : Nat := x.l.length + x.loss.length + x.name.size
def gsum (xs : List X) : Nat := (xs.map xsize).sum
def greatM (xs : List X) : Bool := decide (150 < xs.length ∨ 30000 < gsum xs)
theorem gsum_snoc {k : Nat} (hk : k < xs.length) : gsum (xs.take (k + 1)) = gsum (xs.take k) + xsize xs[k] := by
  unfold gsum
  rw [List.take_succ_eq_append_getElem hk]
  simp only [List.map_append, List.sum_append, List.map_cons, List.map_nil, List.sum_cons, List.sum_nil, Nat.add_zero]
theorem reach_le : reachBytes ≤ 140737488351232 := by decide +kernel
theorem gsum_bd (h : ∀ x ∈ xs, XIn w x) (k : Nat) : gsum (xs.take k) ≤ k * 422212465065984 := by
  induction k with
  | zero => simp [gsum]
  | succ k ih =>
    by_cases hk : k < xs.length
    · rw [gsum_snoc hk]
      have := h _ (List.getElem_mem hk)
      have h1 := Nat.le_trans this.nm reach_le
      have h2 := Nat.le_trans this.bl reach_le
      have h3 := Nat.le_trans this.lol reach_le
      have h4 : xsize xs[k] ≤ 422212465053696 := by
        unfold xsize
        omega
      omega
    · have e : xs.take (k + 1) = xs.take k := by rw [List.take_of_length_le (by omega), List.take_of_length_le (by omega)]
      rw [e]
      exact Nat.le_trans ih (Nat.mul_le_mul_right _ (Nat.le_succ k))
/-- One number that the loop carries. -/
def GInv (xs : List X) (k : Nat) (n : Int) : Prop := n = gsum (xs.take k)

theorem great17_abs (h : ActsIn w v xs) : Calls Try.prog 4 #[v] w fun e w' => e = .returned (.bool (greatM xs)) ∧ Keep (fun _ => False) w w' := by
  obtain ⟨a, c, rfl⟩ := h.sl.form
  have hlen : xs.length ≤ 9223372036854775807 := by
    obtain ⟨_, _, _, e, q1, q2, _⟩ := h.sl
    cases e
    unfold maxLen at q2
    omega
  have H := Lib.hid h
  clear h
  by_cases hl : 150 < xs.length
  · have e : greatM xs = true := by simp [greatM, hl]
    rw [e]
    clear e
    go_enter Try.func4, Try.ntmps4
    go_wp2
    go_ret
    exact ⟨rfl, Keep.refl _ _⟩
  · go_enter Try.func4, Try.ntmps4
    go_wp2
    go_loopw [3, 4] (fun s i wr => ∃ k : Nat, ∃ n : Int, k ≤ xs.length ∧ i = .int .i64 k ∧ s = .int .i64 n ∧ GInv xs k n ∧ Keep (fun _ => False) w wr) (fun _ i _ => xs.length - (intOf i).toNat)
    case atStart => exact ⟨0, 0, Nat.zero_le _, rfl, rfl, rfl, Keep.refl _ _⟩
    case round =>
      obtain ⟨k, n, hk, rfl, rfl, hn, hkp⟩ := hrel
      have hnb : 0 ≤ n ∧ n ≤ 70368744177664000 := by
        unfold GInv at hn
        have := gsum_bd H.out.each k
        omega
      by_cases hlt : k < xs.length
      · obtain ⟨g, off, c', e, hc⟩ := (H.out.keep hkp).at hlt
        cases e
        have hx := H.out.each _ (List.getElem_mem hlt)
        have c1 : wr.cell? ⟨g, off + k * 5 + 1, none⟩ = some (.string xs[k].name) := hc 1 _ rfl
        have c2 : wr.cell? ⟨g, off + k * 5 + 2, none⟩ = some xs[k].b := hc 2 _ rfl
        have c4 : wr.cell? ⟨g, off + k * 5 + 4, none⟩ = some xs[k].lo := hc 4 _ rfl
        have hnx : GInv xs (k + 1) (n + xs[k].l.length + xs[k].loss.length + xs[k].name.size) := by
          unfold GInv at hn ⊢
          rw [gsum_snoc hlt, hn]
          unfold xsize
          omega
        have b1 := Nat.le_trans hx.nm reach_le
        have b2 := Nat.le_trans hx.bl reach_le
        have b4 := Nat.le_trans hx.lol reach_le
        obtain ⟨a2, d2, e2⟩ := hx.b.form
        obtain ⟨a4, d4, e4⟩ := hx.lo.form
        rw [e2] at c2
        rw [e4] at c4
        generalize xs[k].l.length = n2 at *
        generalize xs[k].loss.length = n4 at *
        generalize xs[k].name = nm at *
        obtain ⟨hn0, hn1⟩ := hnb
        have HK := Lib.hid hkp
        have HNX := Lib.hid hnx
        clear hn hkp hc hx e2 e4 hnx
        go_wp2
        go_quiet (fail)
        go_wp2
        go_roundw
        case rel => exact ⟨k + 1, _, by omega, by go_num, rfl, HNX.out, HK.out.drewN nq⟩
        case measure => simp [intOf]; omega
      · have hkl : k = xs.length := by omega
        have e : greatM xs = decide (30000 < n) := by
          unfold GInv at hn
          rw [hkl, List.take_length] at hn
          unfold greatM
          rw [hn]
          simp [hl]
          omega
        have HE := Lib.hid e
        have HK := Lib.hid hkp
        clear hn hkp e
        obtain ⟨hn0, hn1⟩ := hnb
        go_wp2
        go_ret
        exact ⟨by rw [HE.out]; rfl, HK.out⟩
end
end Go.Proofs.Ytlnlgjifepjkbaa
