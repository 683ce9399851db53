/- The laws' own helpers: LeftBytes and the wrappers. -/
import Derived.Test.YtlnlgjifepjkbaaLawB
namespace Go.Proofs.Ytlnlgjifepjkbaa
open Go.RowKit
set_option maxRecDepth 20000

section
variable {w : World}

theorem Twin.keep {w' : World} {S : Nat → Prop} {v : Value} {l : List UInt8} (h : Twin w v l) (k : Keep S w w') (hn : ∀ g, blk v = some g → ¬ S g) : Twin w' v l := by
  obtain ⟨a, c, rfl, ho⟩ := h
  refine ⟨a, c, rfl, ho.keep k (fun g hg => hn g ?_)⟩
  have := own_blk hg
  cases a with
  | none => simp [blk] at this
  | some ad => simpa [blk] using this
theorem Twin.sl {v : Value} {l : List UInt8} (h : Twin w v l) : Sl w 1 v l.length (bv l) := by
  obtain ⟨a, c, rfl, ho⟩ := h
  have hc : (l ++ [195, 195]).length ≤ c ∧ c ≤ maxLen := by
    obtain ⟨_, _, _, e, h1, h2, _⟩ := ho
    cases e
    exact ⟨h1, h2⟩
  have h1 := ho.sl.take (k := l.length) (c' := c) (by simp) (by have := hc.1; simp at this; omega) hc.2
  have e : (bv (l ++ [195, 195])).take (l.length * 1) = bv l := by simp [bv]
  rw [e] at h1
  exact h1
theorem Twin.room {v : Value} {l : List UInt8} (h : Twin w v l) : ∃ g c, v = .slice (some ⟨g, 0, none⟩) l.length c ∧ l.length + 2 ≤ c ∧ c ≤ maxLen ∧ w.cell? ⟨g, l.length, none⟩ = some (.int .u8 195) ∧ w.cell? ⟨g, l.length + 1, none⟩ = some (.int .u8 195) := by
  obtain ⟨a, c, rfl, ho⟩ := h
  have hs := ho.sl
  obtain ⟨_, a', c', e, h1, h2, hr⟩ := hs
  cases e
  obtain ⟨g, off, rfl, hc⟩ := hr (by simp [bv])
  have hoff : off = 0 := by
    obtain ⟨_, a', c', e, h1, h2, hr⟩ := ho
    cases e
    rcases hr with rfl | ⟨g', cur, e, _⟩
    · simp at h1
    · cases e; rfl
  subst hoff
  refine ⟨g, c, rfl, by simp at h1; omega, h2, ?_, ?_⟩
  · have := hc l.length (.int .u8 195) (by simp [bv])
    simpa using this
  · have := hc (l.length + 1) (.int .u8 195) (by simp [bv])
    simpa using this

def Fine (w : World) (e : Ending) (w' : World) : Prop := e = .returned (.bool true) ∧ Keep (fun _ => False) w w'

theorem leftB_abs (v b : Value) (l : List UInt8) (hv : Twin w v l) (hb : Sl w 1 b l.length (bv l)) (hl : l.length ≤ 1000000) :
    Calls Try.prog 47 #[v, b, .int .u8 195] w (Fine w) := by
  have HS : Hid (Calls Try.prog 46 #[v, b] w (Fine w)) := Lib.hid ((sameB_abs v b l l hv.sl hb).mono fun e w' ⟨h1, h2⟩ => ⟨by rw [h1]; simp, h2⟩)
  obtain ⟨g, c, rfl, h1, h2, c0, c1⟩ := hv.room
  obtain ⟨ab, cb, rfl⟩ := hb.form
  have h3 : ¬ c = l.length := by omega
  have h4 : ¬ l.length = c := by omega
  unfold maxLen at h2
  clear hv hb
  go_enter Try.func47, Try.ntmps47
  go_wp2_with (go_at_call 46; refine HS.out.mono ?_; rintro e w1 ⟨rfl, k⟩; have q0 := k.cell c0 (fun h => h); have q1 := k.cell c1 (fun h => h); have K := Lib.hid k; clear k)
  go_ret
  exact ⟨rfl, K.out⟩

theorem same_abs (a b : Value) (la lb : List UInt8) (ha : Sl w 1 a la.length (bv la)) (hb : Sl w 1 b lb.length (bv lb)) :
    Calls Try.prog 26 #[a, b] w fun e w' => e = .returned (.bool (decide (la = lb))) ∧ Keep (fun _ => False) w w' := by
  have HS := Lib.hid (sameB_abs a b la lb ha hb)
  obtain ⟨aa, ca, rfl⟩ := ha.form
  obtain ⟨ab, cb, rfl⟩ := hb.form
  clear ha hb
  generalize decide (la = lb) = q at *
  go_enter Try.func26, Try.ntmps26
  go_wp2_with (go_at_call 46; refine HS.out.mono ?_; rintro e w1 ⟨rfl, k⟩; have K := Lib.hid k; clear k)
  go_ret
  exact ⟨rfl, K.out⟩
theorem twin_abs (v : Value) (l : List UInt8) (hv : Sl w 1 v l.length (bv l)) (hl : l.length ≤ 1000000) :
    Calls Try.prog 16 #[v] w (TwinPost w l) := by
  have HS := Lib.hid (twinB_abs v l hv hl)
  obtain ⟨a, c, rfl⟩ := hv.form
  clear hv
  go_enter Try.func16, Try.ntmps16
  go_wp2_with (go_at_call 39; refine HS.out.mono ?_; rintro e w1 ⟨t, rfl, k⟩; obtain ⟨a1, c1, rfl, k0⟩ := k.1; have K := Lib.hid k; clear k k0)
  go_ret
  exact ⟨_, rfl, K.out⟩
theorem left_abs (v b : Value) (l : List UInt8) (hv : Twin w v l) (hb : Sl w 1 b l.length (bv l)) (hl : l.length ≤ 1000000) :
    Calls Try.prog 28 #[v, b] w (Fine w) := by
  have HS := Lib.hid (leftB_abs v b l hv hb hl)
  obtain ⟨a, c, rfl, _⟩ := hv
  obtain ⟨ab, cb, rfl⟩ := hb.form
  clear hb
  go_enter Try.func28, Try.ntmps28
  go_wp2_with (go_at_call 47; refine HS.out.mono ?_; rintro e w1 ⟨rfl, k⟩; have K := Lib.hid k; clear k)
  go_ret
  exact ⟨rfl, K.out⟩
end
end Go.Proofs.Ytlnlgjifepjkbaa
