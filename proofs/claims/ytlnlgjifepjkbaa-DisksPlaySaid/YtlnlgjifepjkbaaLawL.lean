/- DisksPlay. -/
import Derived.Test.YtlnlgjifepjkbaaLawK
namespace Go.Proofs.Ytlnlgjifepjkbaa
open Go.RowKit
set_option maxRecDepth 20000

section
variable {w W W' : World} {bd m : Nat} {x : X} {xs : List X} {v : Value}

/-- Both disks hold the same, in new memory. -/
def PInv (w : World) (bd m : Nat) (W : World) : Prop := ∃ d S R, Both W bd m S R d ∧ Keep (fun _ => False) w W ∧ ∀ k, S k ∨ R k → w.heap.size ≤ k
theorem PInv.keep (h : PInv w bd m W) : Keep (fun _ => False) w W := by
  obtain ⟨d, S, R, _, h, _⟩ := h
  exact h
def PPost (w : World) (bd m : Nat) (e : Ending) (W : World) : Prop := e = .returned (.bool true) ∧ PInv w bd m W

theorem PInv.does (h : PInv w bd m W) (hx : XIn w x) (hl : x.l.length ≤ 30000) :
    Calls Try.prog 7 #[.pointer (some ⟨bd, 0, none⟩), .pointer (some ⟨m, 0, none⟩), .agg x.cells] W (PPost w bd m) := by
  obtain ⟨d, S, R, hB, hK, hN⟩ := h
  have hx' := hx.keep hK
  refine (does17_abs hB ⟨hx.k0, hx.k1, hx'.b, hl, fun g hg hne => ?_, hx.n0, hx.n1, hx'.lo, fun g hg hne => ?_, hx.loN⟩).mono ?_
  · have := hx.bS g hg hne
    exact ⟨fun e => by have := hN g (.inl e); omega, fun e => by have := hN g (.inr e); omega⟩
  · have := hx.loS g hg hne
    exact ⟨fun e => by have := hN g (.inl e); omega, fun e => by have := hN g (.inr e); omega⟩
  · rintro e w' ⟨he, S', R', h1, h2, h3, h4⟩
    refine ⟨he, _, S', R', h1, hK.trans' h2 (fun _ _ h => h) (fun i hi hs => ?_), fun k hk => ?_⟩
    · have := hN i hs; omega
    · have hs := hK.size
      rcases hk with hk | hk
      · rcases h3 k hk with h5 | h5
        · exact hN k (.inl h5)
        · omega
      · rcases h4 k hk with h5 | h5
        · exact hN k (.inr h5)
        · omega
theorem PInv.next (h : PInv w bd m W) (k : Keep (fun _ => False) W W') : PInv w bd m W' := by
  obtain ⟨d, S, R, hB, hK, hN⟩ := h
  exact ⟨d, S, R, hB.keep k (fun _ _ h => h), hK.trans k, hN⟩
theorem PInv.same (h : PInv w bd m W) : Calls Try.prog 8 #[.pointer (some ⟨bd, 0, none⟩), .pointer (some ⟨m, 0, none⟩)] W (PPost w bd m) := by
  have h' := h
  obtain ⟨d, S, R, hB, hK, hN⟩ := h
  exact (same17_abs hB).mono fun e w' hh => ⟨hh.1, h'.next hh.2⟩

/-- The reference's disk, new. -/
theorem ref_new (w : World) : IsRef (w.alloc (.cells #[.slice none 0 0, .bool false, .int .i64 0, .bool false] 30)) w.heap.size (fun k => k = w.heap.size) D.new := by
  refine ⟨.slice none 0 0, [], false, 0, ⟨alloc_new w _, Own.nil _ _ _, (fun r hr => by cases hr), by simp, (fun r hr => by cases hr), (fun h => by cases h), by omega⟩, rfl, rfl, ?_⟩
  funext k
  apply propext
  constructor
  · exact fun h => .inl h
  · rintro (h | h | ⟨r, hr, _⟩)
    · exact h
    · simp [own] at h
    · cases hr
theorem pinv_new (h : On w W bd D.new) : PInv w bd W.heap.size (W.alloc (.cells #[.slice none 0 0, .bool false, .int .i64 0, .bool false] 30)) := by
  obtain ⟨S, h1, h2, h3⟩ := h
  have k : Keep (fun _ => False) W (W.alloc (.cells #[.slice none 0 0, .bool false, .int .i64 0, .bool false] 30)) := (Keep.refl _ _).alloc _
  refine ⟨D.new, S, fun k => k = W.heap.size, ⟨h1.keep k (fun _ _ h => h), ref_new W, fun i hi e => ?_⟩, h2.trans k, ?_⟩
  · have := h1.lt hi
    omega
  · rintro i (hi | rfl)
    · exact h3 i hi
    · exact h2.size

theorem xsize_le {xs : List X} {x : X} (hx : x ∈ xs) : xsize x ≤ gsum xs := by
  unfold gsum
  induction xs with
  | nil => cases hx
  | cons y ys ih =>
    simp only [List.map_cons, List.sum_cons]
    cases hx with
    | head => omega
    | tail _ h => have := ih h; omega

theorem disksPlay_abs (h : ActsIn w v xs) : Calls Try.prog 3 #[v] w (Fine w) := by
  have HG := Lib.hid (great17_abs h)
  have H := Lib.hid h
  obtain ⟨a, c, rfl⟩ := h.sl.form
  have hlen : xs.length ≤ 9223372036854775807 := by
    obtain ⟨_, _, _, e, q1, q2, _⟩ := h.sl
    cases e
    unfold maxLen at q2
    omega
  clear h
  cases hg : greatM xs with
  | true =>
    rw [hg] at HG
    clear hg
    go_enter Try.func3, Try.ntmps3
    go_wp2_with (first
      | (go_at_call 4; refine HG.out.mono ?_; rintro e w1 ⟨rfl, k1⟩; have K1 := Lib.hid k1; clear k1)
      | (go_at_call 5; refine (lives17_abs _).mono ?_; rintro e w2 ⟨rfl, k2⟩; have K2 := Lib.hid k2; clear k2))
    go_ret
    exact ⟨rfl, K1.out.trans K2.out⟩
  | false =>
    rw [hg] at HG
    have hsm : xs.length ≤ 150 ∧ gsum xs ≤ 30000 := by
      simp [greatM] at hg
      omega
    have HS := Lib.hid hsm
    clear hg hsm
    go_enter Try.func3, Try.ntmps3
    go_wp2_with (first
      | (go_at_call 4; refine HG.out.mono ?_; rintro e w1 ⟨rfl, k1⟩; have K1 := Lib.hid k1; clear k1)
      | (go_at_call 6; refine (on_new _).mono ?_; rintro e w2 ⟨bd, rfl, k2⟩; have K2 := Lib.hid (pinv_new k2); clear k2))
    generalize w2.heap.size = m at *
    generalize w2.alloc (.cells #[.slice none 0 0, .bool false, .int .i64 0, .bool false] 30) = w3 at *
    go_loopw [5] (fun i wr => ∃ k : Nat, k ≤ xs.length ∧ i = .int .i64 k ∧ PInv w1 bd m wr) (fun i _ => xs.length - (intOf i).toNat)
    case atStart => exact ⟨0, Nat.zero_le _, rfl, K2.out⟩
    case round =>
      obtain ⟨k, hk, rfl, hI⟩ := hrel
      by_cases hlt : k < xs.length
      · obtain ⟨g, off, c', e, hc⟩ := ((H.out.keep K1.out).keep hI.keep).at hlt
        cases e
        have c0 : wr.cell? ⟨g, off + k * 5, none⟩ = some (.int .u8 xs[k].kind) := hc 0 _ rfl
        have c1 : wr.cell? ⟨g, off + k * 5 + 1, none⟩ = some (.string xs[k].name) := hc 1 _ rfl
        have c2 : wr.cell? ⟨g, off + k * 5 + 2, none⟩ = some xs[k].b := hc 2 _ rfl
        have c3 : wr.cell? ⟨g, off + k * 5 + 3, none⟩ = some (.int .i64 xs[k].n) := hc 3 _ rfl
        have c4 : wr.cell? ⟨g, off + k * 5 + 4, none⟩ = some xs[k].lo := hc 4 _ rfl
        have HD := Lib.hid (hI.does ((H.out.each _ (List.getElem_mem hlt)).keep K1.out) (by have := xsize_le (List.getElem_mem hlt); have := HS.out.2; unfold xsize at *; omega))
        clear hI hc
        simp only [X.cells] at HD
        go_wp2_with fail
        refine HD.out.mono ?_
        rintro e w5 ⟨rfl, k5⟩
        have K5 := Lib.hid k5
        clear k5 c0 c1 c2 c3 c4
        go_wp2_with (go_at_call 8; refine K5.out.same.mono ?_; rintro e w6 ⟨rfl, k6⟩; have K6 := Lib.hid k6; clear k6)
        go_roundw
        case rel => exact ⟨k + 1, by omega, by go_num, K6.out⟩
        case measure => simp [intOf]; omega
      · have HI := Lib.hid hI
        clear hI
        go_wp2_with (go_at_call 5; refine (lives17_abs _).mono ?_; rintro e w4 ⟨rfl, k4⟩; have K4 := Lib.hid k4; clear k4)
        go_ret
        exact ⟨rfl, (K1.out.trans HI.out.keep).trans K4.out⟩
end
end Go.Proofs.Ytlnlgjifepjkbaa
