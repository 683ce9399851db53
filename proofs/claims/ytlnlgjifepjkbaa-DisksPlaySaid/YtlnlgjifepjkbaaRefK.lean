/- The reference's disk: Drop. -/
import Derived.Test.YtlnlgjifepjkbaaRefJ
namespace Go.Proofs.Ytlnlgjifepjkbaa
open Go.RowKit
set_option maxRecDepth 20000

theorem dropM_old {d : D} {name : ByteArray} {f : F} (ha : askedE d.dead name = 0) (hf : findM name d.fs = some f) : dropM d name = if d.fuse = 0 then ({ d with dead := true }, 17) else ({ fs := delF name d.fs, fuse := burned d.fuse, dead := d.dead }, 0) := by
  have e : aheadM d name 0 false = 0 := by
    unfold aheadM
    rw [if_neg (by rw [ha]; simp), if_neg (by rw [hf]; simp), if_neg (by rw [hf]; simp)]
  unfold dropM doM
  rw [e, if_neg (by simp)]
  split
  · rfl
  · simp only [turnM, hf]

theorem rdel {rs : List RF} {i : Nat} {name : ByteArray} (hi : i < rs.length) (hn : rs[i].name = name) (hnd : ((rs.map RF.abs).map (·.name)).Nodup) : (rs.take i ++ rs.drop (i + 1)).map RF.abs = delF name (rs.map RF.abs) := by
  induction rs generalizing i with
  | nil => simp at hi
  | cons r rs ih =>
    simp only [List.map_cons, List.nodup_cons] at hnd
    cases i with
    | zero =>
      have e : r.abs.name = name := hn
      have : delF name (rs.map RF.abs) = rs.map RF.abs := by
        unfold delF
        refine List.filter_eq_self.2 fun f hf => ?_
        have : f.name ≠ name := fun h => hnd.1 (by rw [e, ← h]; exact List.mem_map.2 ⟨f, hf, rfl⟩)
        simpa using this
      have e2 : delF name ((r :: rs).map RF.abs) = delF name (rs.map RF.abs) := by simp [delF, e]
      rw [e2, this]
      simp
    | succ i =>
      have hi' : i < rs.length := by simpa using hi
      have hn' : rs[i].name = name := by simpa using hn
      have hne : r.abs.name ≠ name := fun h => hnd.1 (by rw [h, ← hn']; exact List.mem_map.2 ⟨rs[i].abs, List.mem_map.2 ⟨_, List.getElem_mem hi', rfl⟩, rfl⟩)
      have e2 : delF name ((r :: rs).map RF.abs) = r.abs :: delF name (rs.map RF.abs) := by simp [delF, hne]
      rw [e2, ← ih hi' hn' hnd.2]
      simp

section
variable {m : Nat} {v : Value} {rs : List RF} {burns : Bool} {fuse : Int} {dead : Bool} {w : World} {R : Nat → Prop} {d : D}

theorem del_close {W w6 : World} {v' : Value} {i : Nat} (h : RefAt W m v rs burns fuse dead) (K : Keep (fun _ => False) W w6)
    (hv : Own w6 56 3 v' (i + (rs.length - (i + 1))) (rcs (rs.take i ++ rs.drop (i + 1)))) (hab : ∀ g, own v' = some g → W.heap.size ≤ g) (hi : i < rs.length) :
    RefAt (w6.setCell ⟨m, 0, none⟩ v') m v' (rs.take i ++ rs.drop (i + 1)) burns fuse dead := by
  have h6 := h.keep K (fun _ _ h => h)
  have hm := lt_of_heap h.disk
  have hK : Keep (fun i => i = m) w6 (w6.setCell ⟨m, 0, none⟩ v') := (Keep.refl (fun i => i = m) w6).setCell ⟨m, 0, none⟩ _ (.inr rfl)
  have hlen : (rs.take i ++ rs.drop (i + 1)).length = i + (rs.length - (i + 1)) := by simp; omega
  have hmem : ∀ r, r ∈ rs.take i ++ rs.drop (i + 1) → r ∈ rs := by
    intro r hr
    rcases List.mem_append.1 hr with hr | hr
    · exact List.mem_of_mem_take hr
    · exact List.mem_of_mem_drop hr
  refine ⟨setCell_at _ _ _ _ h6.disk, ?_, ?_, by have := h.few; rw [hlen]; omega, fun r hr => h.sizes r (hmem r hr), h.fuse0, h.fuse1⟩
  · rw [hlen]
    exact hv.keep hK (fun g hg e => by have := hab g hg; omega)
  · intro r hr
    exact (h6.bytes r (hmem r hr)).keep hK (fun g hg e => h6.sl_m (hmem r hr) (e ▸ hg))
end
end Go.Proofs.Ytlnlgjifepjkbaa
