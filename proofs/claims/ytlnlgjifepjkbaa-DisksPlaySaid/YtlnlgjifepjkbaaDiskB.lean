/- The program's disk: burns, size, Clone and Clip at bytes, the four closures. -/
import Derived.Test.YtlnlgjifepjkbaaDiskA
import Derived.Deep.RegionLaw
import Derived.Deep.RegionHeld3
import Derived.Laws.EntriesVeiled
namespace Go.Proofs.Ytlnlgjifepjkbaa
open Go.RowKit
open Go.ChangeMaps (setBlock)
set_option maxRecDepth 20000

section
variable {bd bm : Nat} {fs : List PF} {fuse : Int} {dead : Bool} {w : World}

theorem burns_zero (h : DiskAt w bd bm fs 0 dead) :
    Calls Try.prog 50 #[.pointer (some ⟨bd, 0, none⟩)] w fun e w' => e = .returned (.int .i64 17) ∧ w' = w.setCell ⟨bd, 2, none⟩ (.bool true) := by
  have h1 := h.c1
  have h2 := h.c2
  have hf := free_of h.disk 2
  clear h
  go_enter Try.func50, Try.ntmps50
  go_wp2
  go_ret
  exact ⟨rfl, rfl⟩
theorem burns_some (h : DiskAt w bd bm fs fuse dead) (hp : 0 < fuse) :
    Calls Try.prog 50 #[.pointer (some ⟨bd, 0, none⟩)] w fun e w' => e = .returned (.int .i64 0) ∧ w' = w.setCell ⟨bd, 1, none⟩ (.int .i64 (fuse - 1)) := by
  have h1 := h.c1
  have hf := free_of h.disk 1
  have hm := h.fuse1
  have hz : (fuse == 0) = false := by simp; omega
  clear h
  go_enter Try.func50, Try.ntmps50
  go_wp2
  go_ret
  exact ⟨rfl, rfl⟩
theorem burns_none (h : DiskAt w bd bm fs fuse dead) (hp : fuse < 0) :
    Calls Try.prog 50 #[.pointer (some ⟨bd, 0, none⟩)] w fun e w' => e = .returned (.int .i64 0) ∧ w = w' := by
  have h1 := h.c1
  have hz : (fuse == 0) = false := by simp; omega
  clear h
  go_enter Try.func50, Try.ntmps50
  go_wp2
  go_ret
  exact ⟨rfl, rfl⟩

/-- The file of a name. -/
def findF (name : ByteArray) (fs : List PF) : Option PF := fs.find? fun f => decide (f.name = name)
theorem findF_some {name : ByteArray} {fs : List PF} {f : PF} (h : findF name fs = some f) : f ∈ fs ∧ f.name = name :=
  ⟨List.mem_of_find?_eq_some h, by simpa using List.find?_some h⟩
theorem assoc_ent (name : ByteArray) : ∀ (fs : List PF), assocS name (fs.map ent) = (findF name fs).map fun f => .pointer (some ⟨f.blk, 0, none⟩)
  | [] => rfl
  | f :: r => by
    by_cases h : name = f.name
    · simp [assocS, findF, ent, h]
    · have h' : ¬ f.name = name := fun e => h e.symm
      simp only [List.map_cons, assocS, ent, if_neg h]
      rw [show assocS name (List.map ent r) = _ from assoc_ent name r]
      simp [findF, h']

theorem look_none (h : DiskAt w bd bm fs fuse dead) {name : ByteArray} (hf : findF name fs = none) :
    (Instr.lookup 44 (.map (some bm)) (.string name) false).run Try.prog w = .ok (.pointer none) w := by
  obtain ⟨es, clock, hb, hM⟩ := h.map
  have := i_lookup hb hM name
  rwa [assoc_ent, hf] at this
theorem look_some (h : DiskAt w bd bm fs fuse dead) {name : ByteArray} {f : PF} (hf : findF name fs = some f) :
    (Instr.lookup 44 (.map (some bm)) (.string name) false).run Try.prog w = .ok (.pointer (some ⟨f.blk, 0, none⟩)) w := by
  obtain ⟨es, clock, hb, hM⟩ := h.map
  have := i_lookup hb hM name
  rwa [assoc_ent, hf] at this

theorem size_none (h : DiskAt w bd bm fs fuse dead) {name : ByteArray} (hf : findF name fs = none) :
    Calls Try.prog 31 #[.pointer (some ⟨bd, 0, none⟩), .string name] w fun e w' => e = .returned (.int .i64 0) ∧ w = w' := by
  have h0 := h.c0
  have hl := look_none h hf
  clear h
  go_enter Try.func31, Try.ntmps31
  go_wp2_with (go_at_call 34; refine (there_some _ _ _ h0).mono ?_; rintro e w' ⟨rfl, rfl⟩)
  go_ret
  exact ⟨rfl, rfl⟩
theorem size_some (h : DiskAt w bd bm fs fuse dead) {name : ByteArray} {f : PF} (hf : findF name fs = some f) :
    Calls Try.prog 31 #[.pointer (some ⟨bd, 0, none⟩), .string name] w fun e w' => e = .returned (.int .i64 f.b.length) ∧ w = w' := by
  have h0 := h.c0
  have hl := look_some h hf
  have hF := h.file f (findF_some hf).1
  obtain ⟨a, c, hv⟩ := hF.bytes.form
  have hc : w.cell? ⟨f.blk, 0, none⟩ = some (.slice a f.b.length c) := by rw [cell_of hF.cells, ← hv]; rfl
  clear h hF hv
  go_enter Try.func31, Try.ntmps31
  go_wp2_with (go_at_call 34; refine (there_some _ _ _ h0).mono ?_; rintro e w' ⟨rfl, rfl⟩)
  go_ret
  exact ⟨rfl, rfl⟩

theorem FileAt.apart {f : PF} (h : FileAt w f) : own f.sl ≠ some f.blk := fun e => by
  obtain ⟨cur, hc⟩ := h.bytes.elem e
  rw [h.cells] at hc
  simp at hc

/-- The files of w' at f's block: f' for f. -/
structure Turned (w w' : World) (f f' : PF) : Prop where
  file : FileAt w' f'
  name : f'.name = f.name
  blk : f'.blk = f.blk
  own : ∀ g, own f'.sl = some g → own f.sl = some g ∨ w.heap.size ≤ g
  keep : Keep (fun k => k = f.blk ∨ Go.Proofs.Ytlnlgjifepjkbaa.own f.sl = some k) w w'

theorem add1_close {f : PF} {a0 : Option Addr} {c0 : Nat} {l : List UInt8} (hl : f.b.length + l.length ≤ maxFile) (hF : FileAt w f) (hv : f.sl = .slice a0 f.b.length c0) {a' : Option Addr} {c' : Nat} {w1 : World}
    (k1 : Own w1 5 1 (.slice a' (f.b ++ l).length c') (f.b ++ l).length (bv (f.b ++ l))) (K2 : Keep (fun k => own (.slice a0 f.b.length c0) = some k ∧ 0 < l.length) w.drew w1)
    (K3 : own (.slice a' (f.b ++ l).length c') = own (.slice a0 f.b.length c0) ∧ blk (.slice a' (f.b ++ l).length c') = blk (.slice a0 f.b.length c0) ∨ blk (.slice a' (f.b ++ l).length c') = some w.drew.heap.size ∧ own (.slice a' (f.b ++ l).length c') = some w.drew.heap.size)
    (q0 : w1.heap[f.blk]? = some (.cells #[f.sl, .int .i64 f.sure, .string f.name] 63 (0, 0))) :
    ∃ sl, Turned w (w1.setCell ⟨f.blk, 0, none⟩ (.slice a' (f.b.length + l.length) c')) f { f with sl := sl, b := f.b ++ l } := by
  rw [← hv] at K2 K3
  have k2 : Keep (fun k => own f.sl = some k ∧ 0 < l.length) w w1 := ((Keep.refl (fun _ => False) w).drew).trans' K2 (fun _ _ h => h.elim) (fun _ _ h => h)
  simp only [List.length_append] at k1 K3
  refine ⟨.slice a' (f.b.length + l.length) c', ⟨setCell_at _ _ _ _ q0, ?_, ?_, by simpa using hl⟩, rfl, rfl, ?_, ?_⟩
  · have := k1.keep ((Keep.refl (fun k => k = f.blk) w1).setCell ⟨f.blk, 0, none⟩ (.slice a' (f.b.length + l.length) c') (.inr rfl)) (fun g hg e => by
      subst e
      rcases K3 with k3 | k3
      · exact hF.apart (k3.1 ▸ hg)
      · rw [hg] at k3
        have := lt_of_heap hF.cells
        have k4 := k3.2
        simp at k4
        omega)
    simpa using this
  · exact Nat.le_trans hF.sure (by simp)
  · intro g hg
    rcases K3 with k3 | k3
    · exact .inl (k3.1 ▸ hg)
    · rw [hg] at k3
      have k4 := k3.2
      simp at k4
      exact .inr (by omega)
  · exact (k2.mono (fun _ _ h => .inr h.1)).setCell _ _ (.inr (.inl rfl))

set_option maxHeartbeats 1000000 in
theorem add1 {f : PF} (hF : FileAt w f) (bb : Nat) (l : List UInt8) (v : Value) (hb : w.heap[bb]? = some (.cells #[v] 32 (0, 0))) (hS : Sl w 1 v l.length (bv l)) (hl : f.b.length + l.length ≤ maxFile) :
    Calls Try.prog 32 #[.pointer (some ⟨f.blk, 0, none⟩), .pointer (some ⟨bb, 0, none⟩)] w fun e w' => e = .returned (.tuple #[]) ∧ ∃ sl, Turned w w' f { f with sl := sl, b := f.b ++ l } := by
  obtain ⟨a0, c0, hv0⟩ := hF.bytes.form
  obtain ⟨a1, c1, rfl⟩ := hS.form
  have hl' : f.b.length + l.length ≤ 140737488355328 := by unfold maxFile at hl; omega
  have HF := Lib.hid hF
  have hown : Hid (Own w.drew 5 1 (.slice a0 f.b.length c0) f.b.length (bv f.b)) := hv0 ▸ hF.bytes.keep ((Keep.refl (fun _ => False) w).drew) (fun _ _ h => h)
  have hsd : Hid (Sl w.drew 1 (.slice a1 l.length c1) l.length (bv l)) := hS.keep ((Keep.refl (fun _ => False) w).drew) (fun _ _ h => h)
  have h1 : w.cell? ⟨f.blk, 0, none⟩ = some (.slice a0 f.b.length c0) := by rw [cell_of hF.cells, ← hv0]; rfl
  have h2 : w.cell? ⟨bb, 0, none⟩ = some (.slice a1 l.length c1) := by rw [cell_of hb]; rfl
  have h3 := free_of hF.cells 0
  have hap : Hid (own (.slice a0 f.b.length c0) ≠ some f.blk) := hv0 ▸ HF.out.apart
  have HV := Lib.hid hv0
  clear hF hb hS hv0
  go_enter Try.func32, Try.ntmps32
  go_wp2
  go_region_law ((refine step_appB _ rfl (.tmp 8) (.tmp 9) rfl (.slice a0 f.b.length c0) (.slice a1 l.length c1) f.b l (by simp [Act.eval, Act.put]) (by simp [Act.eval, Act.put]) hown.out hsd.out hl' ?_; intro a' c' w1 k1 k2 k3; have q0 := k2.obj (b := f.blk) HF.out.cells (fun h => hap.out h.1); have q1 : w1.cell? ⟨f.blk, 0, none⟩ = some (.slice a0 f.b.length c0) := (by rw [cell_of q0, ← HV.out]; rfl); have q2 := free_of q0 0; have K1 := Lib.hid k1; have K2 := Lib.hid k2; have K3 := Lib.hid k3; have Q0 := Lib.hid q0; clear k1 k2 k3 q0))
  all_goals
    go_wp2
    go_end0
    exact ⟨rfl, add1_close hl HF.out HV.out K1.out K2.out K3.out Q0.out⟩

theorem sure1 {f : PF} (hF : FileAt w f) :
    Calls Try.prog 33 #[.pointer (some ⟨f.blk, 0, none⟩)] w fun e w' => e = .returned (.tuple #[]) ∧ Turned w w' f { f with sure := f.b.length } := by
  obtain ⟨a0, c0, hv0⟩ := hF.bytes.form
  have h1 : w.cell? ⟨f.blk, 0, none⟩ = some (.slice a0 f.b.length c0) := by rw [cell_of hF.cells, ← hv0]; rfl
  have h2 : w.cell? ⟨f.blk, 1, none⟩ = some (.int .i64 f.sure) := by rw [cell_of hF.cells]; rfl
  have h3 := free_of hF.cells 1
  have HF := Lib.hid hF
  clear hF hv0
  go_enter Try.func33, Try.ntmps33
  go_wp2
  go_end0
  have hF := HF.out
  refine ⟨rfl, ⟨setCell_at _ _ _ _ hF.cells, ?_, Nat.le_refl _, hF.most⟩, rfl, rfl, fun g hg => .inl hg, (Keep.refl _ _).setCell _ _ (.inr (.inl rfl))⟩
  exact hF.bytes.keep ((Keep.refl (fun k => k = f.blk) w).setCell ⟨f.blk, 1, none⟩ _ (.inr rfl)) (fun g hg e => hF.apart (e ▸ hg))

theorem put1_close {f : PF} {l : List UInt8} (hl : l.length ≤ maxFile) (hF : FileAt w f) {a' : Option Addr} {c' : Nat} {w1 : World}
    (k1 : Own w1 5 1 (.slice a' l.length c') l.length (bv l)) (k2 : Keep (fun _ => False) w.drew w1) (k3 : ∀ g, blk (.slice a' l.length c') = some g → w.drew.heap.size ≤ g)
    (q0 : w1.heap[f.blk]? = some (.cells #[f.sl, .int .i64 f.sure, .string f.name] 63 (0, 0))) :
    ∃ sl, Turned w ((w1.setCell ⟨f.blk, 0, none⟩ (.slice a' l.length c')).setCell ⟨f.blk, 1, none⟩ (.int .i64 l.length)) f { f with sl := sl, b := l, sure := l.length } := by
  have k2' : Keep (fun k => k = f.blk ∨ own f.sl = some k) w w1 := ((Keep.refl (fun _ => False) w).drew).trans' k2 (fun _ _ h => h.elim) (fun _ _ h => h.elim)
  have hlt := lt_of_heap hF.cells
  refine ⟨.slice a' l.length c', ⟨setCell_at _ _ _ _ (setCell_at _ _ _ _ q0), ?_, Nat.le_refl _, hl⟩, rfl, rfl, ?_, ?_⟩
  · refine k1.keep ((((Keep.refl (fun k => k = f.blk) w1).setCell ⟨f.blk, 0, none⟩ _ (.inr rfl))).setCell ⟨f.blk, 1, none⟩ _ (.inr rfl)) (fun g hg e => ?_)
    have := k3 g (own_blk hg)
    simp at this
    omega
  · intro g hg
    have := k3 g (own_blk hg)
    simp at this
    exact .inr this
  · exact (k2'.setCell _ _ (.inr (.inl rfl))).setCell _ _ (.inr (.inl rfl))

theorem drop1_close (h : DiskAt w bd bm fs fuse dead) {name : ByteArray} {es es' : Array MapEntry} {clock : Nat} (hm : w.drew.heap[bm]? = some (.map es clock)) (hM : MapS es' clock ((fs.map ent).filter fun p => p.1 ≠ name)) :
    DiskAt (setBlock w.drew bm (.map es' clock)) bd bm (fs.filter fun g => g.name ≠ name) fuse dead ∧ Keep (fun k => k = bm) w (setBlock w.drew bm (.map es' clock)) := by
  have hk : Keep (fun k => k = bm) w (setBlock w.drew bm (.map es' clock)) := ((Keep.refl _ w).drew).setBlock _ _ (.inr rfl)
  have hbd : ¬ bd = bm := fun e => by
    have := h.disk
    rw [e, show w.heap[bm]? = _ from hm] at this
    cases this
  refine ⟨⟨hk.obj h.disk hbd, ⟨es', clock, heap_setBlock _ _ _ _ hm, ?_⟩, ?_, ?_, ?_, h.fuse0, h.fuse1⟩, hk⟩
  · rw [List.filter_map] at hM
    exact hM
  · intro g hg
    have hg' := (List.mem_filter.1 hg).1
    have hG := h.file g hg'
    refine ⟨hk.obj hG.cells (fun e => ?_), hG.bytes.keep hk (fun k hk' e => ?_), hG.sure, hG.most⟩
    · have := hG.cells
      rw [e, show w.heap[bm]? = _ from hm] at this
      cases this
    · obtain ⟨cur, hc⟩ := hG.bytes.elem hk'
      rw [e, show w.heap[bm]? = _ from hm] at hc
      cases hc
  · exact h.sep.filter _
  · exact Nat.le_trans (List.length_filter_le _ _) h.few

set_option maxHeartbeats 1000000 in
theorem put1 {f : PF} (hF : FileAt w f) (bb : Nat) (l : List UInt8) (v : Value) (hb : w.heap[bb]? = some (.cells #[v] 32 (0, 0))) (hS : Sl w 1 v l.length (bv l)) (hl : l.length ≤ maxFile) :
    Calls Try.prog 38 #[.pointer (some ⟨f.blk, 0, none⟩), .pointer (some ⟨bb, 0, none⟩)] w fun e w' => e = .returned (.tuple #[]) ∧ ∃ sl, Turned w w' f { f with sl := sl, b := l, sure := l.length } := by
  obtain ⟨a1, c1, rfl⟩ := hS.form
  have hl' : l.length ≤ 140737488355328 := by unfold maxFile at hl; omega
  have HF := Lib.hid hF
  have HB := Lib.hid hb
  have HS := Lib.hid hS
  have h2 : w.cell? ⟨bb, 0, none⟩ = some (.slice a1 l.length c1) := by rw [cell_of hb]; rfl
  have h3 := free_of hF.cells 0
  have hne : ¬ f.blk = bb := fun e => by
    have := hF.cells
    rw [e, hb] at this
    simp at this
  clear hF hb hS
  go_enter Try.func38, Try.ntmps38
  go_wp2
  go_region_held3 (fun w' => w'.cell? ⟨bb, 0, none⟩ = some (.slice a1 l.length c1)) (first | exact k2.cell h2 (fun h => h) | (rw [World.cell?_setCell_other _ _ _ _ (by simp [hne]), World.cell?_setCell_other _ _ _ _ (by simp [hne])]; exact k2.cell h2 (fun h => h)) | go_keep) (first | (go_at_call 37; refine (cloneB _ l _ (HS.out.keep ((Keep.refl (fun _ => False) w).drew) (fun _ _ h => h)) hl').mono ?_; rintro e w1 ⟨a', c', rfl, k1, k2, k3⟩; have q0 := k2.obj (b := f.blk) HF.out.cells (fun h => h); have q1 : w1.cell? ⟨f.blk, 0, none⟩ = some f.sl := (by rw [cell_of q0]; rfl); have q1' : w1.cell? ⟨f.blk, 1, none⟩ = some (.int .i64 f.sure) := (by rw [cell_of q0]; rfl); have q2 := free_of q0 0; have q3 := free_of q0 1))
  all_goals
    go_wp2
    go_end0
    exact ⟨rfl, put1_close hl HF.out k1 k2 k3 q0⟩

set_option maxHeartbeats 1000000 in
theorem drop1 (h : DiskAt w bd bm fs fuse dead) {f : PF} (hf : f ∈ fs) (bb : Nat) (hb : w.heap[bb]? = some (.cells #[.pointer (some ⟨bd, 0, none⟩)] 25 (0, 0))) :
    Calls Try.prog 43 #[.pointer (some ⟨f.blk, 0, none⟩), .pointer (some ⟨bb, 0, none⟩)] w fun e w' => e = .returned (.tuple #[]) ∧ DiskAt w' bd bm (fs.filter fun g => g.name ≠ f.name) fuse dead ∧ Keep (fun k => k = bm) w w' := by
  obtain ⟨es, clock, hm, hM⟩ := h.map
  have hF := h.file f hf
  have h0 := h.c0
  have h1 : w.cell? ⟨bb, 0, none⟩ = some (.pointer (some ⟨bd, 0, none⟩)) := by rw [cell_of hb]; rfl
  have h2 : w.cell? ⟨f.blk, 2, none⟩ = some (.string f.name) := by rw [cell_of hF.cells]; rfl
  have hs : assocS f.name (fs.map ent) = some (.pointer (some ⟨f.blk, 0, none⟩)) := assocS_of_mem hM.nd (List.mem_map.2 ⟨f, hf, rfl⟩)
  have HH := Lib.hid h
  have HM := Lib.hid hM
  have Hm : Hid (w.drew.heap[bm]? = some (.map es clock)) := hm
  have HS := Lib.hid hs
  clear h hM hm hF hb hf hs
  go_enter Try.func43, Try.ntmps43
  go_wp2
  go_region_law ((refine step_delete _ rfl (.tmp 6) (.tmp 10) _ rfl Try.underlying44 Try.underlying9 Hm.out HM.out HS.out (by simp [Act.eval, Act.put]) (by simp [Act.eval, Act.put]) ?_; intro es' hM'; have HM' := Lib.hid hM'; clear hM'))
  all_goals
    go_wp2
    go_end0
    exact ⟨rfl, drop1_close HH.out Hm.out HM'.out⟩
end
end Go.Proofs.Ytlnlgjifepjkbaa
