/- The laws' own helpers: SameBytes, TwinBytes, LeftBytes. -/
import Derived.Test.YtlnlgjifepjkbaaRefN
import Derived.StillTactics
namespace Go.Proofs.Ytlnlgjifepjkbaa
open Go.RowKit
set_option maxRecDepth 20000

section
variable {w : World}

theorem Sl.at {v : Value} {l : List UInt8} (h : Sl w 1 v l.length (bv l)) {k : Nat} (hk : k < l.length) : ∃ g off c, v = .slice (some ⟨g, off, none⟩) l.length c ∧ w.cell? ⟨g, off + k, none⟩ = some (.int .u8 l[k].toNat) := by
  obtain ⟨_, a, c, rfl, h1, h2, hr⟩ := h
  obtain ⟨g, off, rfl, hc⟩ := hr (fun e => by have := congrArg List.length e; simp at this; subst this; simp at hk)
  exact ⟨g, off, c, rfl, hc k _ (bv_get hk)⟩

theorem sameB_abs (a b : Value) (la lb : List UInt8) (ha : Sl w 1 a la.length (bv la)) (hb : Sl w 1 b lb.length (bv lb)) :
    Calls Try.prog 46 #[a, b] w fun e w' => e = .returned (.bool (decide (la = lb))) ∧ Keep (fun _ => False) w w' := by
  obtain ⟨aa, ca, rfl⟩ := ha.form
  obtain ⟨ab, cb, rfl⟩ := hb.form
  have hla : la.length ≤ 9223372036854775807 := by
    obtain ⟨_, _, _, e, q1, q2, _⟩ := ha
    cases e
    unfold maxLen at q2
    omega
  have hlb : lb.length ≤ 9223372036854775807 := by
    obtain ⟨_, _, _, e, q1, q2, _⟩ := hb
    cases e
    unfold maxLen at q2
    omega
  have HA := Lib.hid ha
  have HB := Lib.hid hb
  clear ha hb
  by_cases hl : la.length = lb.length
  · have hlI : (la.length : Int) = lb.length := by omega
    have HL := Lib.hid hl
    clear hl
    go_enter Try.func46, Try.ntmps46
    go_wp2
    go_loopw [5] (fun i wr => ∃ k : Nat, k ≤ la.length ∧ i = .int .i64 k ∧ (∀ j (h : j < la.length) (h' : j < lb.length), j < k → la[j] = lb[j]) ∧ Keep (fun _ => False) w wr) (fun i _ => la.length - (intOf i).toNat)
    case atStart => exact ⟨0, Nat.zero_le _, rfl, fun j _ _ hj => by omega, Keep.refl _ _⟩
    case round =>
      obtain ⟨k, hk, rfl, hn, hkp⟩ := hrel
      have HN := Lib.hid hn
      have HK := Lib.hid hkp
      clear hn hkp
      by_cases hlt : k < la.length
      · have hlt' : k < lb.length := by omega
        obtain ⟨g1, o1, c1, e1, q1⟩ := (HA.out.keep HK.out (fun _ _ h => h)).at hlt
        obtain ⟨g2, o2, c2, e2, q2⟩ := (HB.out.keep HK.out (fun _ _ h => h)).at hlt'
        cases e1
        cases e2
        have hltI : (k : Int) < la.length := by omega
        have hltI' : (k : Int) < lb.length := by omega
        obtain ⟨x, hx⟩ : ∃ x, la[k] = x := ⟨_, rfl⟩
        obtain ⟨y, hy⟩ : ∃ y, lb[k] = y := ⟨_, rfl⟩
        rw [hx] at q1
        rw [hy] at q2
        have HX := Lib.hid hx
        have HY := Lib.hid hy
        clear hx hy
        by_cases hxy : x = y
        · subst hxy
          go_wp2
          go_still (by kernel_rfl)
          go_wp2
          go_roundw
          case rel =>
            exact ⟨k + 1, by omega, by go_num, fun j h h' hj => by
            by_cases e : j = k
            · subst e; rw [HX.out, HY.out]
            · exact HN.out j h h' (by omega), HK.out.drew⟩
          case measure => simp [intOf]; omega
        · have hxn : ¬ (x.toNat : Int) = y.toNat := fun e => hxy (by
            have : x.toNat = y.toNat := by omega
            exact UInt8.toNat_inj.1 this)
          have hne : ¬ la = lb := fun e => hxy (by rw [← HX.out, ← HY.out]; simp [e])
          go_wp2
          go_still (by kernel_rfl)
          go_wp2
          go_ret
          exact ⟨by simp [hne], HK.out.drew⟩
      · have hkl : k = la.length := by omega
        go_wp2
        go_ret
        refine ⟨?_, HK.out⟩
        have : la = lb := List.ext_getElem HL.out fun j h1 h2 => HN.out j h1 h2 (by omega)
        simp [this]
  · have hlI : ¬ (la.length : Int) = lb.length := by omega
    have hne : ¬ la = lb := fun e => hl (by rw [e])
    go_enter Try.func46, Try.ntmps46
    go_wp2
    go_ret
    exact ⟨by simp [hne], Keep.refl _ _⟩
end
end Go.Proofs.Ytlnlgjifepjkbaa
