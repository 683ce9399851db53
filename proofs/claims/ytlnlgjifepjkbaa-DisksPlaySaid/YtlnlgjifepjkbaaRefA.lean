/- The reference's disk in memory; asked, at, burn, SetFuse. -/
import Derived.Test.YtlnlgjifepjkbaaLift
namespace Go.Proofs.Ytlnlgjifepjkbaa
open Go.RowKit
set_option maxRecDepth 20000

/-- A file of the reference's disk. -/
structure RF where
  name : ByteArray
  sl : Value
  b : List UInt8
  sure : Nat
def RF.abs (r : RF) : F := ⟨r.name, r.b, r.sure⟩
def rc (r : RF) : List Value := [.string r.name, r.sl, .int .i64 r.sure]
def rcs (rs : List RF) : List Value := rs.flatMap rc
theorem rcs_length (rs : List RF) : (rcs rs).length = rs.length * 3 := by
  induction rs with
  | nil => rfl
  | cons r rs ih =>
    simp only [rcs, List.flatMap_cons, List.length_append, List.length_cons] at ih ⊢
    rw [ih]
    simp [rc]
    omega
theorem rcs_append (a b : List RF) : rcs (a ++ b) = rcs a ++ rcs b := by simp [rcs]
theorem rcs_take (rs : List RF) (k : Nat) : (rcs rs).take (k * 3) = rcs (rs.take k) := by
  induction rs generalizing k with
  | nil => simp [rcs]
  | cons r rs ih =>
    cases k with
    | zero => simp [rcs]
    | succ k =>
      have : (k + 1) * 3 = (rc r).length + k * 3 := by simp [rc]; omega
      rw [List.take_succ_cons, show rcs (r :: rs) = rc r ++ rcs rs from rfl, this, List.take_length_add_append, ih]
      rfl
theorem rcs_drop (rs : List RF) (k : Nat) : (rcs rs).drop (k * 3) = rcs (rs.drop k) := by
  induction rs generalizing k with
  | nil => simp [rcs]
  | cons r rs ih =>
    cases k with
    | zero => simp
    | succ k =>
      have : (k + 1) * 3 = (rc r).length + k * 3 := by simp [rc]; omega
      rw [List.drop_succ_cons, show rcs (r :: rs) = rc r ++ rcs rs from rfl, this, List.drop_length_add_append, ih]
theorem rcs_get (rs : List RF) {i : Nat} (h : i < rs.length) (j : Nat) (hj : j < 3) : (rcs rs)[i * 3 + j]? = (rc rs[i])[j]? := by
  induction rs generalizing i with
  | nil => simp at h
  | cons r rs ih =>
    rw [show rcs (r :: rs) = rc r ++ rcs rs from rfl]
    have hl : (rc r).length = 3 := rfl
    cases i with
    | zero => rw [List.getElem?_append_left (by omega)]; simp
    | succ i =>
      rw [List.getElem?_append_right (by omega), show (i + 1) * 3 + j - (rc r).length = i * 3 + j from by omega]
      exact ih (by simpa using h)

structure RefAt (w : World) (m : Nat) (v : Value) (rs : List RF) (burns : Bool) (fuse : Int) (dead : Bool) : Prop where
  disk : w.heap[m]? = some (.cells #[v, .bool burns, .int .i64 fuse, .bool dead] 30 (0, 0))
  files : Own w 56 3 v rs.length (rcs rs)
  bytes : ∀ r ∈ rs, Own w 5 1 r.sl r.b.length (bv r.b)
  few : rs.length ≤ 16
  sizes : ∀ r ∈ rs, r.sure ≤ r.b.length ∧ r.b.length ≤ 1048576
  fuse0 : burns = true → 0 ≤ fuse
  fuse1 : fuse ≤ 9223372036854775807 ∧ -9223372036854775808 ≤ fuse

def rfoot (m : Nat) (v : Value) (rs : List RF) (k : Nat) : Prop := k = m ∨ own v = some k ∨ ∃ r ∈ rs, own r.sl = some k

section
variable {m : Nat} {v : Value} {rs : List RF} {burns : Bool} {fuse : Int} {dead : Bool} {w : World}

theorem RefAt.keep {w' : World} {S : Nat → Prop} (h : RefAt w m v rs burns fuse dead) (k : Keep S w w') (hS : ∀ i, rfoot m v rs i → ¬ S i) : RefAt w' m v rs burns fuse dead :=
  ⟨k.obj h.disk (hS _ (.inl rfl)), h.files.keep k (fun g hg => hS _ (.inr (.inl hg))), fun r hr => (h.bytes r hr).keep k (fun g hg => hS _ (.inr (.inr ⟨r, hr, hg⟩))), h.few, h.sizes, h.fuse0, h.fuse1⟩
theorem RefAt.own_m (h : RefAt w m v rs burns fuse dead) : own v ≠ some m := fun e => by
  obtain ⟨cur, hc⟩ := h.files.elem e
  rw [h.disk] at hc
  simp at hc
theorem RefAt.sl_m (h : RefAt w m v rs burns fuse dead) {r : RF} (hr : r ∈ rs) : own r.sl ≠ some m := fun e => by
  obtain ⟨cur, hc⟩ := (h.bytes r hr).elem e
  rw [h.disk] at hc
  simp at hc
theorem RefAt.sl_own (h : RefAt w m v rs burns fuse dead) {r : RF} (hr : r ∈ rs) {g : Nat} (hg : own v = some g) : own r.sl ≠ some g := fun e => by
  obtain ⟨cur, hc⟩ := (h.bytes r hr).elem e
  obtain ⟨cur', hc'⟩ := h.files.elem hg
  rw [hc'] at hc
  simp at hc
theorem RefAt.foot_lt (h : RefAt w m v rs burns fuse dead) {k : Nat} (hk : rfoot m v rs k) : k < w.heap.size := by
  rcases hk with rfl | hk | ⟨r, hr, hk⟩
  · exact lt_of_heap h.disk
  · exact h.files.lt hk
  · exact (h.bytes r hr).lt hk
/-- The disk's own block is turned, nothing else. -/
theorem RefAt.turn {w' : World} {burns' : Bool} {fuse' : Int} {dead' : Bool} (h : RefAt w m v rs burns fuse dead) (k : Keep (fun k => k = m) w w') (hd : w'.heap[m]? = some (.cells #[v, .bool burns', .int .i64 fuse', .bool dead'] 30 (0, 0)))
    (h0 : burns' = true → 0 ≤ fuse') (h1 : fuse' ≤ 9223372036854775807 ∧ -9223372036854775808 ≤ fuse') : RefAt w' m v rs burns' fuse' dead' :=
  ⟨hd, h.files.keep k (fun g hg e => h.own_m (e ▸ hg)), fun r hr => (h.bytes r hr).keep k (fun g hg e => h.sl_m hr (e ▸ hg)), h.few, h.sizes, h0, h1⟩

theorem RefAt.c0 (h : RefAt w m v rs burns fuse dead) : w.cell? ⟨m, 0, none⟩ = some v := by rw [cell_of h.disk]; rfl
theorem RefAt.c1 (h : RefAt w m v rs burns fuse dead) : w.cell? ⟨m, 1, none⟩ = some (.bool burns) := by rw [cell_of h.disk]; rfl
theorem RefAt.c2 (h : RefAt w m v rs burns fuse dead) : w.cell? ⟨m, 2, none⟩ = some (.int .i64 fuse) := by rw [cell_of h.disk]; rfl
theorem RefAt.c3 (h : RefAt w m v rs burns fuse dead) : w.cell? ⟨m, 3, none⟩ = some (.bool dead) := by rw [cell_of h.disk]; rfl
/-- Where a file's cells are. -/
theorem RefAt.at (h : RefAt w m v rs burns fuse dead) {i : Nat} (hi : i < rs.length) : ∃ g c, v = .slice (some ⟨g, 0, none⟩) rs.length c ∧ w.cell? ⟨g, i * 3, none⟩ = some (.string rs[i].name) ∧ w.cell? ⟨g, i * 3 + 1, none⟩ = some rs[i].sl ∧ w.cell? ⟨g, i * 3 + 2, none⟩ = some (.int .i64 rs[i].sure) ∧
    (∀ j, w.frozen? ⟨g, j, none⟩ = false) ∧ own v = some g ∧ rs.length ≤ c ∧ c ≤ maxLen := by
  obtain ⟨hl, a, c, rfl, hnc, hm, hr⟩ := h.files
  rcases hr with rfl | ⟨g, cur, rfl, hg, hs, ht⟩
  · omega
  · have hget : ∀ j, j < 3 → cur[i * 3 + j]? = (rc rs[i])[j]? := by
      intro j hj
      have h1 := rcs_get rs hi j hj
      rw [← ht, List.getElem?_take, if_pos (by omega)] at h1
      simpa using h1
    refine ⟨g, c, rfl, ?_, ?_, ?_, fun j => free_of hg j, by simp [own]; omega, hnc, hm⟩
    · rw [cell_of hg]; have := hget 0 (by omega); simpa [rc] using this
    · rw [cell_of hg]; have := hget 1 (by omega); simpa [rc] using this
    · rw [cell_of hg]; have := hget 2 (by omega); simpa [rc] using this

theorem RefAt.cells {g n c : Nat} (h : RefAt w m (.slice (some ⟨g, 0, none⟩) n c) rs burns fuse dead) {i : Nat} (hi : i < rs.length) : w.cell? ⟨g, i * 3, none⟩ = some (.string rs[i].name) ∧ w.cell? ⟨g, i * 3 + 1, none⟩ = some rs[i].sl ∧ w.cell? ⟨g, i * 3 + 2, none⟩ = some (.int .i64 rs[i].sure) ∧ (∀ j, w.frozen? ⟨g, j, none⟩ = false) := by
  obtain ⟨g', c', e, h1, h2, h3, h4, _⟩ := h.at hi
  cases e
  exact ⟨h1, h2, h3, h4⟩
theorem rasked_any (h : RefAt w m v rs burns fuse dead) (name : ByteArray) :
    Calls Try.prog 40 #[.pointer (some ⟨m, 0, none⟩), .string name] w fun e w' => e = .returned (.int .i64 (askedE dead name)) ∧ w = w' := by
  have h3 := h.c3
  clear h
  cases dead
  · by_cases hz : name.size = 0
    · go_enter Try.func40, Try.ntmps40
      go_wp2
      go_ret
      exact ⟨by simp [askedE, hz], rfl⟩
    · by_cases hl : 16 < name.size
      · go_enter Try.func40, Try.ntmps40
        go_wp2
        go_ret
        exact ⟨by simp [askedE, hl], rfl⟩
      · go_enter Try.func40, Try.ntmps40
        go_wp2
        go_ret
        exact ⟨by simp [askedE, hz, hl], rfl⟩
  · go_enter Try.func40, Try.ntmps40
    go_wp2
    go_ret
    exact ⟨by simp [askedE], rfl⟩

/-- Where a name is: its place, or -1. -/
def atM (name : ByteArray) (rs : List RF) : Int := match rs.findIdx? (fun r => decide (r.name = name)) with
  | some i => i
  | none => -1

theorem rat_any (h : RefAt w m v rs burns fuse dead) (name : ByteArray) :
    Calls Try.prog 41 #[.pointer (some ⟨m, 0, none⟩), .string name] w fun e w' => e = .returned (.int .i64 (atM name rs)) ∧ w = w' := by
  have h0 := h.c0
  have hfew := h.few
  obtain ⟨a, c, hv⟩ := h.files.form
  rw [hv] at h0
  have H := Lib.hid h
  have HV := Lib.hid hv
  clear h hv
  go_enter Try.func41, Try.ntmps41
  go_wp2
  go_loop [5] (fun i => ∃ k : Nat, k ≤ rs.length ∧ i = .int .i64 k ∧ ∀ j (hj : j < rs.length), j < k → rs[j].name ≠ name) (fun i => rs.length - (intOf i).toNat)
  case atStart => exact ⟨0, Nat.zero_le _, rfl, fun j _ hj => by omega⟩
  case round =>
    obtain ⟨k, hk, rfl, hn⟩ := hrel
    have HN := Lib.hid hn
    clear hn
    by_cases hlt : k < rs.length
    · obtain ⟨g, c', hv', q0, q1, q2, q3, q4, q5, q6⟩ := H.out.at hlt
      have hac : a = some ⟨g, 0, none⟩ ∧ c = c' := by rw [HV.out] at hv'; cases hv'; exact ⟨rfl, rfl⟩
      obtain ⟨rfl, rfl⟩ := hac
      clear q1 q2 q3 q4 q5 q6 hv'
      obtain ⟨nm, hnm⟩ : ∃ nm, rs[k].name = nm := ⟨_, rfl⟩
      rw [hnm] at q0
      have HM := Lib.hid hnm
      clear hnm
      by_cases he : nm = name
      · have hb : (nm.toList == name.toList) = true := by rw [toList_beq]; simp [he]
        subst he
        go_wp2
        go_ret
        refine ⟨?_, rfl⟩
        have : rs.findIdx? (fun r => decide (r.name = nm)) = some k := by
          rw [List.findIdx?_eq_some_iff_getElem]
          exact ⟨hlt, by simp [HM.out], fun j hj => by simpa using HN.out j (by omega) hj⟩
        simp [atM, this]
      · have hb : (nm.toList == name.toList) = false := by rw [toList_beq]; simp [he]
        go_wp2
        go_round
        case rel => exact ⟨k + 1, by omega, by go_num, fun j hj hjk => by
          by_cases e : j = k
          · subst e; rw [HM.out]; exact he
          · exact HN.out j hj (by omega)⟩
        case measure => simp [intOf]; omega
    · go_wp2
      go_ret
      refine ⟨?_, rfl⟩
      have : rs.findIdx? (fun r => decide (r.name = name)) = none := by
        rw [List.findIdx?_eq_none_iff]
        intro r hr
        obtain ⟨j, hj, rfl⟩ := List.mem_iff_getElem.1 hr
        simpa using HN.out j hj (by omega)
      simp [atM, this]
end
end Go.Proofs.Ytlnlgjifepjkbaa
