/- The reference's disk: burn, SetFuse, and what it holds as plain data. -/
import Derived.Test.YtlnlgjifepjkbaaRefA
namespace Go.Proofs.Ytlnlgjifepjkbaa
open Go.RowKit
set_option maxRecDepth 20000

/-- In w the reference's disk at block m, whose blocks are R, holds d. -/
def IsRef (w : World) (m : Nat) (R : Nat → Prop) (d : D) : Prop := ∃ v rs burns fuse, RefAt w m v rs burns fuse d.dead ∧ rs.map RF.abs = d.fs ∧ d.fuse = (if burns then fuse else -1) ∧ R = rfoot m v rs
def RNext (w w' : World) (m : Nat) (R : Nat → Prop) (d' : D) : Prop := ∃ R', IsRef w' m R' d' ∧ Keep R w w' ∧ ∀ k, R' k → R k ∨ w.heap.size ≤ k
/-- What a doing answers, under one name. -/
def RDid (w : World) (m : Nat) (R : Nat → Prop) (r : D × Int) (e : Ending) (w' : World) : Prop := e = .returned (.int .i64 r.2) ∧ RNext w w' m R r.1

section
variable {m : Nat} {v : Value} {rs : List RF} {burns : Bool} {fuse : Int} {dead : Bool} {w : World} {R : Nat → Prop} {d : D}

theorem IsRef.lt (h : IsRef w m R d) {k : Nat} (hk : R k) : k < w.heap.size := by
  obtain ⟨v, rs, burns, fuse, h1, _, _, rfl⟩ := h
  exact h1.foot_lt hk
theorem IsRef.keep {w' : World} {T : Nat → Prop} (h : IsRef w m R d) (k : Keep T w w') (hT : ∀ i, R i → ¬ T i) : IsRef w' m R d := by
  obtain ⟨v, rs, burns, fuse, h1, h2, h3, rfl⟩ := h
  exact ⟨v, rs, burns, fuse, h1.keep k hT, h2, h3, rfl⟩
theorem RNext.refl (h : IsRef w m R d) : RNext w w m R d := ⟨R, h, Keep.refl _ _, fun _ h => .inl h⟩
theorem RNext.ofKeep {w1 w' : World} {d' : D} (k : Keep (fun _ => False) w w1) (h : RNext w1 w' m R d') : RNext w w' m R d' := by
  obtain ⟨S', h1, h2, h3⟩ := h
  exact ⟨S', h1, k.trans' h2 (fun _ _ h => h.elim) (fun _ _ h => h), fun i hi => (h3 i hi).imp id (fun h => Nat.le_trans k.size h)⟩

theorem burn_no (h : RefAt w m v rs true 0 dead) :
    Calls Try.prog 44 #[.pointer (some ⟨m, 0, none⟩)] w fun e w' => e = .returned (.bool false) ∧ w' = w.setCell ⟨m, 3, none⟩ (.bool true) := by
  have h1 := h.c1
  have h2 := h.c2
  have h3 := h.c3
  have hf := free_of h.disk 3
  clear h
  go_enter Try.func44, Try.ntmps44
  go_wp2
  go_ret
  exact ⟨rfl, rfl⟩
theorem burn_free (h : RefAt w m v rs false fuse dead) :
    Calls Try.prog 44 #[.pointer (some ⟨m, 0, none⟩)] w fun e w' => e = .returned (.bool true) ∧ w = w' := by
  have h1 := h.c1
  clear h
  go_enter Try.func44, Try.ntmps44
  go_wp2
  go_ret
  exact ⟨rfl, rfl⟩
theorem burn_some (h : RefAt w m v rs true fuse dead) (hp : 0 < fuse) :
    Calls Try.prog 44 #[.pointer (some ⟨m, 0, none⟩)] w fun e w' => e = .returned (.bool true) ∧ w' = w.setCell ⟨m, 2, none⟩ (.int .i64 (fuse - 1)) := by
  have h1 := h.c1
  have h2 := h.c2
  have hf := free_of h.disk 2
  have hm := h.fuse1.1
  have hz : (fuse == 0) = false := by simp; omega
  clear h
  go_enter Try.func44, Try.ntmps44
  go_wp2
  go_ret
  exact ⟨rfl, rfl⟩
/-- The fuse lets one doing more be. -/
theorem burn_go (h : RefAt w m v rs burns fuse dead) (hz : (if burns then fuse else -1) ≠ 0) :
    Calls Try.prog 44 #[.pointer (some ⟨m, 0, none⟩)] w fun e w' => e = .returned (.bool true) ∧ ∃ fuse', RefAt w' m v rs burns fuse' dead ∧ burned (if burns then fuse else -1) = (if burns then fuse' else -1) ∧ Keep (fun k => k = m) w w' := by
  cases burns with
  | false =>
    refine (burn_free h).mono ?_
    rintro e w' ⟨rfl, rfl⟩
    exact ⟨rfl, fuse, h, by simp [burned], Keep.refl _ _⟩
  | true =>
    have hp : 0 < fuse := by have := h.fuse0 rfl; simp at hz; omega
    refine (burn_some h hp).mono ?_
    rintro e w' ⟨rfl, rfl⟩
    have hk : Keep (fun k => k = m) w (w.setCell ⟨m, 2, none⟩ (.int .i64 (fuse - 1))) := (Keep.refl (fun k => k = m) w).setCell ⟨m, 2, none⟩ _ (.inr rfl)
    have := h.fuse1
    exact ⟨rfl, fuse - 1, h.turn hk (setCell_at _ _ _ _ h.disk) (fun _ => by omega) (by omega), by simp [burned, hp], hk⟩

theorem setfuse_abs (h : IsRef w m R d) (n : Int) (hn : -9223372036854775808 ≤ n ∧ n ≤ 9223372036854775807) :
    Calls Try.prog 22 #[.pointer (some ⟨m, 0, none⟩), .int .i64 n] w fun e w' => e = .returned (.tuple #[]) ∧ RNext w w' m R (fuseM d n) := by
  obtain ⟨v, rs, burns, fuse, h1, h2, h3, rfl⟩ := h
  have c1 := h1.c1
  have c2 := h1.c2
  have f1 := free_of h1.disk 1
  have f2 := free_of h1.disk 2
  have H1 := Lib.hid h1
  have H2 := Lib.hid h2
  clear h1 h2 h3
  by_cases hneg : n < 0
  · go_enter Try.func22, Try.ntmps22
    go_wp2
    go_end0
    refine ⟨rfl, ?_⟩
    have h1 := H1.out
    have hk : Keep (fun k => k = m) w (((w.setCell ⟨m, 1, none⟩ (.bool true)).setCell ⟨m, 2, none⟩ (.int .i64 n)).setCell ⟨m, 2, none⟩ (.int .i64 0)) := (((Keep.refl (fun k => k = m) w).setCell ⟨m, 1, none⟩ _ (.inr rfl)).setCell ⟨m, 2, none⟩ _ (.inr rfl)).setCell ⟨m, 2, none⟩ _ (.inr rfl)
    refine ⟨rfoot m v rs, ⟨v, rs, true, 0, h1.turn hk (setCell_at _ _ _ _ (setCell_at _ _ _ _ (setCell_at _ _ _ _ h1.disk))) (fun _ => by omega) (by omega), H2.out, ?_, rfl⟩, hk.mono fun _ _ e => .inl e, fun _ h => .inl h⟩
    simp [fuseM]; omega
  · go_enter Try.func22, Try.ntmps22
    go_wp2
    go_end0
    refine ⟨rfl, ?_⟩
    have h1 := H1.out
    have hk : Keep (fun k => k = m) w ((w.setCell ⟨m, 1, none⟩ (.bool true)).setCell ⟨m, 2, none⟩ (.int .i64 n)) := ((Keep.refl (fun k => k = m) w).setCell ⟨m, 1, none⟩ _ (.inr rfl)).setCell ⟨m, 2, none⟩ _ (.inr rfl)
    refine ⟨rfoot m v rs, ⟨v, rs, true, n, h1.turn hk (setCell_at _ _ _ _ (setCell_at _ _ _ _ h1.disk)) (fun _ => by omega) ⟨hn.2, hn.1⟩, H2.out, ?_, rfl⟩, hk.mono fun _ _ e => .inl e, fun _ h => .inl h⟩
    simp [fuseM]; omega

theorem findIdx_find {α : Type} (p : α → Bool) : ∀ (l : List α), l.find? p = (l.findIdx? p).bind fun i => l[i]?
  | [] => rfl
  | x :: r => by
    by_cases h : p x
    · simp [h, List.findIdx?_cons]
    · simp only [List.find?_cons, List.findIdx?_cons, h, findIdx_find p r]
      cases r.findIdx? p <;> simp
/-- The place of a name, and what is there. -/
theorem atM_cases (name : ByteArray) (rs : List RF) : (atM name rs = -1 ∧ findM name (rs.map RF.abs) = none) ∨ ∃ i, ∃ h : i < rs.length, atM name rs = i ∧ rs[i].name = name ∧ findM name (rs.map RF.abs) = some rs[i].abs := by
  have hf : ∀ rs : List RF, findM name (rs.map RF.abs) = (rs.find? fun r => decide (r.name = name)).map RF.abs := by
    intro rs
    induction rs with
    | nil => rfl
    | cons r rs ih =>
      have e : r.abs.name = r.name := rfl
      simp only [findM, List.map_cons, List.find?_cons, e] at ih ⊢
      by_cases h : r.name = name
      · simp [h]
      · simp only [h, decide_false]
        exact ih
  cases h : rs.findIdx? (fun r => decide (r.name = name)) with
  | none => exact .inl ⟨by simp [atM, h], by rw [hf, findIdx_find, h]; rfl⟩
  | some i =>
    obtain ⟨hi, hp, _⟩ := List.findIdx?_eq_some_iff_getElem.1 h
    exact .inr ⟨i, hi, by simp [atM, h], by simpa using hp, by rw [hf, findIdx_find, h]; simp [hi]⟩
end
end Go.Proofs.Ytlnlgjifepjkbaa
