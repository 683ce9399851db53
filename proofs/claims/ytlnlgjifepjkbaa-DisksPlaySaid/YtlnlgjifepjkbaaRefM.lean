/- The reference's disk: Lift, the plain part. -/
import Derived.Test.YtlnlgjifepjkbaaRefL
namespace Go.Proofs.Ytlnlgjifepjkbaa
open Go.RowKit
set_option maxRecDepth 20000

section
variable {m : Nat} {v : Value} {rs : List RF} {burns : Bool} {fuse : Int} {dead : Bool} {w : World} {R : Nat → Prop} {d : D}

theorem rcs_set2 (rs : List RF) (r : RF) {i : Nat} (hi : i < rs.length) (hn : r.name = rs[i].name) : ((rcs rs).set (i * 3 + 1) r.sl).set (i * 3 + 2) (.int .i64 r.sure) = rcs (rs.set i r) := by
  rw [← rcs_set rs r hi]
  have h0 := rcs_get rs hi 0 (by omega)
  have : (rcs rs).set (i * 3) (.string r.name) = rcs rs := by
    apply List.ext_getElem?
    intro j
    rw [List.getElem?_set]
    by_cases hj : i * 3 = j
    · subst hj
      have h1 : i * 3 < (rcs rs).length := by rw [rcs_length]; omega
      rw [if_pos rfl, if_pos h1]
      rw [Nat.add_zero] at h0
      rw [h0, hn]
      rfl
    · rw [if_neg hj]
  rw [this]

/-- What holds at the head of each round. -/
def RLInv (d : D) (loss : List Int) (m : Nat) (v : Value) (burns : Bool) (fuse : Int) (R : Nat → Prop) (W : World) (i : Nat) (wr : World) : Prop :=
  ∃ rs, RefAt wr m v rs burns fuse d.dead ∧ rs.map RF.abs = (liftTo d loss i).fs ∧ Keep R W wr ∧ ∀ k, rfoot m v rs k → R k ∨ W.heap.size ≤ k

theorem liftTo_names (d : D) (loss : List Int) (k : Nat) : (liftTo d loss k).fs.map (·.name) = d.fs.map (·.name) := by
  apply List.ext_getElem?
  intro j
  by_cases hj : j < d.fs.length
  · simp only [liftTo, List.getElem?_map, List.getElem?_mapIdx, List.getElem?_eq_getElem hj, Option.map_some]
    split <;> rfl
  · simp only [liftTo, List.getElem?_map, List.getElem?_mapIdx, List.getElem?_eq_none (Nat.le_of_not_lt hj), Option.map_none]

theorem rlift_close {loss : List Int} {W wr w2 : World} {k s' g c : Nat} {sl : Value} (h : RefAt wr m (.slice (some ⟨g, 0, none⟩) rs.length c) rs burns fuse d.dead) (hrs : rs.map RF.abs = (liftTo d loss k).fs) (hK : Keep R W wr) (hR : ∀ k, rfoot m (.slice (some ⟨g, 0, none⟩) rs.length c) rs k → R k ∨ W.heap.size ≤ k) (hgR : R g)
    (hs : Sorted d.fs) (hk : k < rs.length) (hg : own (.slice (some ⟨g, 0, none⟩) rs.length c) = some g) (M : Mid wr w2 sl (rs[k].b.take s')) (hs' : (s' : Int) = rs[k].sure + min (moreM loss k) (rs[k].b.length - rs[k].sure)) (hm0 : 0 ≤ moreM loss k) :
    RLInv d loss m (.slice (some ⟨g, 0, none⟩) rs.length c) burns fuse R W (k + 1) ((w2.setCell ⟨g, k * 3 + 1, none⟩ sl).setCell ⟨g, k * 3 + 2, none⟩ (.int .i64 s')) := by
  have hd : d.fs.length = rs.length := by
    have h9 := congrArg List.length hrs
    simpa [liftTo] using h9.symm
  have hkd : k < d.fs.length := by omega
  have hrk : rs[k].abs = d.fs[k] := by
    have h9 := congrArg (fun l => l[k]?) hrs
    simpa [liftTo, hk, hkd] using h9
  have hsz := h.sizes _ (List.getElem_mem hk)
  have hle : s' ≤ rs[k].b.length := by omega
  have h2 := h.keep M.keep (fun _ _ h => h)
  have hk2 : Keep (fun i => i = g) w2 ((w2.setCell ⟨g, k * 3 + 1, none⟩ sl).setCell ⟨g, k * 3 + 2, none⟩ (.int .i64 s')) := ((Keep.refl (fun i => i = g) w2).setCell ⟨g, k * 3 + 1, none⟩ _ (.inr rfl)).setCell ⟨g, k * 3 + 2, none⟩ _ (.inr rfl)
  have hne : ∀ {s : Value} {l : List UInt8}, Own w2 5 1 s l.length (bv l) → own s ≠ some g := fun ho e => by
    obtain ⟨cur, hc⟩ := ho.elem e
    obtain ⟨cur', hc'⟩ := h2.files.elem hg
    rw [hc'] at hc
    simp at hc
  have ho := (h2.files.set hg (k * 3 + 1) sl (by omega)).set hg (k * 3 + 2) (.int .i64 s') (by omega)
  rw [rcs_set2 rs ⟨rs[k].name, sl, rs[k].b.take s', s'⟩ hk rfl] at ho
  have htl : (rs[k].b.take s').length = s' := by rw [List.length_take]; omega
  refine ⟨rs.set k ⟨rs[k].name, sl, rs[k].b.take s', s'⟩, ⟨hk2.obj h2.disk (fun e => h2.own_m (e ▸ hg)), by simpa using ho, fun r hr => ?_, by simpa using h.few, fun r hr => ?_, h.fuse0, h.fuse1⟩, ?_, ?_, ?_⟩
  · rcases List.mem_or_eq_of_mem_set hr with hr | rfl
    · exact (h2.bytes r hr).keep hk2 (fun i hi e => hne (h2.bytes r hr) (e ▸ hi))
    · exact M.own.keep hk2 (fun i hi e => hne M.own (e ▸ hi))
  · rcases List.mem_or_eq_of_mem_set hr with hr | rfl
    · exact h.sizes r hr
    · show s' ≤ (rs[k].b.take s').length ∧ (rs[k].b.take s').length ≤ 1048576
      omega
  · rw [liftTo_step hs hkd, ← hrs, set_rep rs ⟨rs[k].name, sl, rs[k].b.take s', s'⟩ hk rfl (by rw [hrs, liftTo_names]; exact hs.names), ← hrk]
    congr 1
    have e : s' = rs[k].abs.sure + (min (moreM loss k) (rs[k].abs.b.length - rs[k].abs.sure : Int)).toNat := by
      show s' = rs[k].sure + (min (moreM loss k) (rs[k].b.length - rs[k].sure : Int)).toNat
      omega
    unfold liftF
    rw [← e]
    rfl
  · exact (hK.trans' M.keep (fun _ _ h => h) (fun _ _ h => h.elim)).trans' hk2 (fun _ _ h => h) (fun i _ e => e ▸ hgR)
  · rintro i (rfl | hi | ⟨r, hr, hi⟩)
    · exact hR _ (.inl rfl)
    · exact hR _ (.inr (.inl hi))
    · rcases List.mem_or_eq_of_mem_set hr with hr | rfl
      · exact hR _ (.inr (.inr ⟨r, hr, hi⟩))
      · exact .inr (Nat.le_trans hK.size (M.blk _ (own_blk hi)))
end
end Go.Proofs.Ytlnlgjifepjkbaa
