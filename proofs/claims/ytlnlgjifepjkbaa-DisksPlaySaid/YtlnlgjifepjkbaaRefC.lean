/- The reference's disk: set. -/
import Derived.Test.YtlnlgjifepjkbaaRefB
import Derived.StillTailTactics
import Derived.Deep.RegionLaw
namespace Go.Proofs.Ytlnlgjifepjkbaa
open Go.RowKit
set_option maxRecDepth 20000

theorem info_file : (Try.prog.info? 56).map (fun i => (i.zero, i.size, i.bytes)) = some (some (.agg #[.string ByteArray.empty, .slice none 0 0, .int .i64 0]), 3, 48) := by kernel_rfl

theorem rcs_one {w : World} {rs : List RF} (h : ∀ r ∈ rs, Own w 5 1 r.sl r.b.length (bv r.b)) : ∀ u ∈ rcs rs, u.oneCell' = true := by
  intro u hu
  obtain ⟨r, hr, hu⟩ := List.mem_flatMap.1 hu
  obtain ⟨a, c, hv⟩ := (h r hr).form
  simp [rc] at hu
  rcases hu with rfl | rfl | rfl
  · rfl
  · rw [hv]; rfl
  · rfl

theorem Sl.keepB {w w' : World} {v : Value} {l : List UInt8} {m : Nat} (h : Sl w 1 v l.length (bv l)) (k : Keep (fun i => i = m) w w') (hn : blk v = some m → l = []) : Sl w' 1 v l.length (bv l) := by
  by_cases hl : l = []
  · obtain ⟨h1, a, c, h2, h3, h4, _⟩ := h
    exact ⟨h1, a, c, h2, h3, h4, fun hne => absurd (by rw [hl]; rfl) hne⟩
  · exact h.keep k (fun g hg e => hl (hn (e ▸ hg)))

section
variable {m : Nat} {v : Value} {rs : List RF} {burns : Bool} {fuse : Int} {dead : Bool} {w : World} {R : Nat → Prop} {d : D}

/-- One cell of one's own row is written. -/
theorem Own.set {e sz : Nat} {n : Nat} {xs : List Value} (h : Own w e sz v n xs) {g : Nat} (hg : own v = some g) (j : Nat) (u : Value) (hj : j < n * sz) : Own (w.setCell ⟨g, j, none⟩ u) e sz v n (xs.set j u) := by
  obtain ⟨hl, a, c, rfl, hnc, hm, hr⟩ := h
  rcases hr with rfl | ⟨g', cur, rfl, hg', hs, ht⟩
  · cases a <;> simp [own] at hg
  · simp only [own] at hg
    split at hg
    · cases hg
    · obtain rfl : g' = g := by simpa using hg
      refine ⟨by simpa using hl, _, c, rfl, hnc, hm, .inr ⟨g', _, rfl, setCell_at _ _ _ _ hg', by simpa using hs, ?_⟩⟩
      rw [Array.toList_setIfInBounds, ← ht, List.take_set]
theorem rcs_set (rs : List RF) (r : RF) {i : Nat} (hi : i < rs.length) : (((rcs rs).set (i * 3) (.string r.name)).set (i * 3 + 1) r.sl).set (i * 3 + 2) (.int .i64 r.sure) = rcs (rs.set i r) := by
  induction rs generalizing i with
  | nil => simp at hi
  | cons x rs ih =>
    cases i with
    | zero => simp [rcs, rc]
    | succ i =>
      have e : rcs (x :: rs) = .string x.name :: x.sl :: .int .i64 x.sure :: rcs rs := rfl
      have e2 : rcs ((x :: rs).set (i + 1) r) = .string x.name :: x.sl :: .int .i64 x.sure :: rcs (rs.set i r) := rfl
      rw [e, e2, ← ih (by simpa using hi)]
      rw [show (i + 1) * 3 = i * 3 + 3 from by omega, show i * 3 + 3 + 1 = i * 3 + 1 + 3 from by omega, show i * 3 + 3 + 2 = i * 3 + 2 + 3 from by omega]
      simp only [List.set_cons_succ]
theorem set_rep (rs : List RF) (r : RF) {i : Nat} (hi : i < rs.length) (hn : rs[i].name = r.name) (hnd : ((rs.map RF.abs).map (·.name)).Nodup) : (rs.set i r).map RF.abs = repF r.abs (rs.map RF.abs) := by
  apply List.ext_getElem?
  intro j
  simp only [List.getElem?_map, List.getElem?_set, repF]
  by_cases hj : j < rs.length
  · by_cases e : i = j
    · subst e
      simp [hj, RF.abs, hn]
    · have hne : rs[j].name ≠ r.name := fun h => e (by
        have h1 : i < ((rs.map RF.abs).map (·.name)).length := by simpa using hi
        have h2 : j < ((rs.map RF.abs).map (·.name)).length := by simpa using hj
        exact (List.getElem_inj (h₀ := h1) (h₁ := h2) hnd).1 (by simp [RF.abs]; rw [hn, h]))
      have : ¬ rs[j].abs.name = r.abs.name := hne
      simp [e, hj, this]
  · simp [hj]
    intro e
    omega

/-- The file at a place is put. -/
theorem set_close {g c : Nat} {w2 : World} {name : ByteArray} {l : List UInt8} {sure : Nat} {sl : Value} {i : Nat} (h : RefAt w2 m (.slice (some ⟨g, 0, none⟩) rs.length c) rs burns fuse dead) (hi : i < rs.length) (hn : rs[i].name = name) (hsl : Own w2 5 1 sl l.length (bv l)) (hs : sure ≤ l.length) (hl : l.length ≤ 1048576)
    (hg : own (.slice (some ⟨g, 0, none⟩) rs.length c) = some g) :
    RefAt (((w2.setCell ⟨g, i * 3, none⟩ (.string name)).setCell ⟨g, i * 3 + 1, none⟩ sl).setCell ⟨g, i * 3 + 2, none⟩ (.int .i64 sure)) m (.slice (some ⟨g, 0, none⟩) rs.length c) (rs.set i ⟨name, sl, l, sure⟩) burns fuse dead ∧
    Keep (fun k => k = g) w2 (((w2.setCell ⟨g, i * 3, none⟩ (.string name)).setCell ⟨g, i * 3 + 1, none⟩ sl).setCell ⟨g, i * 3 + 2, none⟩ (.int .i64 sure)) := by
  have hk : Keep (fun k => k = g) w2 (((w2.setCell ⟨g, i * 3, none⟩ (.string name)).setCell ⟨g, i * 3 + 1, none⟩ sl).setCell ⟨g, i * 3 + 2, none⟩ (.int .i64 sure)) := (((Keep.refl (fun k => k = g) w2).setCell ⟨g, i * 3, none⟩ _ (.inr rfl)).setCell ⟨g, i * 3 + 1, none⟩ _ (.inr rfl)).setCell ⟨g, i * 3 + 2, none⟩ _ (.inr rfl)
  have hne : ∀ {s : Value}, (∃ l' : List UInt8, Own w2 5 1 s l'.length (bv l')) → own s ≠ some g := fun ⟨l', ho⟩ e => by
    obtain ⟨cur, hc⟩ := ho.elem e
    obtain ⟨cur', hc'⟩ := h.files.elem hg
    rw [hc'] at hc
    simp at hc
  have h3 : i * 3 + 2 < rs.length * 3 := by omega
  have ho := ((h.files.set hg (i * 3) (.string name) (by omega)).set hg (i * 3 + 1) sl (by omega)).set hg (i * 3 + 2) (.int .i64 sure) (by omega)
  rw [rcs_set rs ⟨name, sl, l, sure⟩ hi] at ho
  refine ⟨⟨hk.obj h.disk (fun e => h.own_m (e ▸ hg)), by simpa using ho, fun r hr => ?_, by simpa using h.few, fun r hr => ?_, h.fuse0, h.fuse1⟩, hk⟩
  · rcases List.mem_or_eq_of_mem_set hr with hr | rfl
    · exact (h.bytes r hr).keep hk (fun k hk' e => hne ⟨r.b, h.bytes r hr⟩ (e ▸ hk'))
    · exact hsl.keep hk (fun k hk' e => hne ⟨l, hsl⟩ (e ▸ hk'))
  · rcases List.mem_or_eq_of_mem_set hr with hr | rfl
    · exact h.sizes r hr
    · exact ⟨hs, hl⟩
end
end Go.Proofs.Ytlnlgjifepjkbaa
