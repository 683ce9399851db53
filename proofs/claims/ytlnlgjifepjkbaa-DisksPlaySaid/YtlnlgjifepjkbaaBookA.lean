/- A book's page of bytes: write, writeBehind, stands. -/
import Derived.Test.YtlnlgjifepjkbaaLawC
import Derived.BigQuiet
namespace Go.Proofs.Ytlnlgjifepjkbaa
open Go.RowKit
set_option maxRecDepth 20000

/-- A page of bytes, as its methods get it. -/
def row (v : Value) (x y : UInt8) : Value := .agg #[v, .int .u8 x.toNat, .int .u8 y.toNat]

theorem Keep.drewN {S : Nat → Prop} {a b : World} (h : Keep S a b) (n : Nat) : Keep S a (b.drewN n) := ⟨h.os, h.tape, h.output, h.size, h.block⟩
section
variable {w : World}

theorem bv_set (l : List UInt8) (k : Nat) (x : UInt8) : (bv l).set k (.int .u8 x.toNat) = bv (l.set k x) := by simp [bv, List.map_set]
theorem rep_step (l : List UInt8) (x : UInt8) {k : Nat} (hk : k < l.length) : (List.replicate k x ++ l.drop k).set k x = List.replicate (k + 1) x ++ l.drop (k + 1) := by
  apply List.ext_getElem?
  intro j
  rw [List.getElem?_set]
  simp only [List.getElem?_append, List.length_replicate, List.getElem?_replicate, List.getElem?_drop, List.length_append, List.length_drop]
  by_cases h1 : k = j
  · subst h1
    have h4 : k < k + 1 := by omega
    have h5 : k < k + (l.length - k) := by omega
    simp only [h4, h5, if_true]
  · by_cases h2 : j < k
    · have h3 : j < k + 1 := by omega
      simp only [h2, h3, if_neg h1, if_true]
    · have h3 : ¬ j < k + 1 := by omega
      simp only [if_neg h1, if_neg h2, if_neg h3]
      congr 1
      omega
/-- A page is written over. -/
def Wrote (w : World) (v : Value) (l : List UInt8) (e : Ending) (w' : World) : Prop := e = .returned (.tuple #[]) ∧ Own w' 5 1 v l.length (bv l) ∧ Keep (fun i => own v = some i) w w'

def WInv (v : Value) (l : List UInt8) (x : UInt8) (W : World) (k : Nat) (wr : World) : Prop := Own wr 5 1 v l.length (bv (List.replicate k x ++ l.drop k)) ∧ Keep (fun i => own v = some i) W wr

theorem write_abs (v : Value) (l : List UInt8) (x y : UInt8) (hv : Own w 5 1 v l.length (bv l)) :
    Calls Try.prog 88 #[.agg #[v, .int .u8 x.toNat, .int .u8 y.toNat]] w (Wrote w v (List.replicate l.length x)) := by
  have hlt : ∀ g, own v = some g → g < w.heap.size := fun g hg => hv.lt hg
  obtain ⟨a, c, rfl⟩ := hv.form
  have hlc : l.length ≤ c ∧ c ≤ maxLen := by
    obtain ⟨_, _, _, e, h1, h2, _⟩ := hv
    cases e
    exact ⟨h1, h2⟩
  obtain ⟨hlc, hcm⟩ := hlc
  unfold maxLen at hcm
  have HV := Lib.hid hv
  have HLT := Lib.hid hlt
  clear hv hlt
  have hbox := alloc_new w (.cells #[.slice a l.length c, .int .u8 x.toNat, .int .u8 y.toNat] 70)
  have HB : Hid (∀ wr, Keep (fun i => own (.slice a l.length c) = some i) (w.alloc (.cells #[.slice a l.length c, .int .u8 x.toNat, .int .u8 y.toNat] 70)) wr → wr.cell? ⟨w.heap.size, 0, none⟩ = some (.slice a l.length c) ∧ wr.cell? ⟨w.heap.size, 1, none⟩ = some (.int .u8 x.toNat)) := Lib.hid fun wr k => by
    have := k.obj hbox (fun e => by have := HLT.out _ e; omega)
    exact ⟨by rw [cell_of this]; rfl, by rw [cell_of this]; rfl⟩
  have HK : Hid (Keep (fun i => own (.slice a l.length c) = some i) w (w.alloc (.cells #[.slice a l.length c, .int .u8 x.toNat, .int .u8 y.toNat] 70))) := (Keep.refl _ _).alloc _
  have HA : Hid (Own (w.alloc (.cells #[.slice a l.length c, .int .u8 x.toNat, .int .u8 y.toNat] 70)) 5 1 (.slice a l.length c) l.length (bv l)) := Lib.hid (HV.out.keep ((Keep.refl (fun _ => False) w).alloc _) (fun _ _ h => h))
  clear hbox
  go_enter Try.func88, Try.ntmps88
  go_wp2
  generalize w.alloc (.cells #[.slice a l.length c, .int .u8 x.toNat, .int .u8 y.toNat] 70) = W at *
  go_loopw [2] (fun i wr => ∃ k : Nat, k ≤ l.length ∧ i = .int .i64 k ∧ WInv (.slice a l.length c) l x W k wr) (fun i _ => l.length - (intOf i).toNat)
  case atStart => exact ⟨0, Nat.zero_le _, rfl, by simpa using HA.out, Keep.refl _ _⟩
  case round =>
    obtain ⟨k, hk, rfl, hI, hK⟩ := hrel
    obtain ⟨c0, c1⟩ := HB.out wr hK
    by_cases hlt : k < l.length
    · have hln : (List.replicate k x ++ l.drop k).length = l.length := by simp; omega
      obtain ⟨g, rfl, hg⟩ : ∃ g, a = some ⟨g, 0, none⟩ ∧ own (.slice a l.length c) = some g := by
        obtain ⟨_, _, _, e, q1, _, q2⟩ := hI
        cases e
        rcases q2 with rfl | ⟨g, cur, rfl, _⟩
        · omega
        · exact ⟨g, rfl, by simp [own]; omega⟩
      have hfr : wr.frozen? ⟨g, k, none⟩ = false := by
        obtain ⟨cur, hc⟩ := hI.elem hg
        exact free_of hc k
      obtain ⟨u, hcell⟩ : ∃ u, wr.cell? ⟨g, k, none⟩ = some u := by
        obtain ⟨_, _, _, e, _, _, hr⟩ := hI.sl
        cases e
        obtain ⟨g', off, e, hc⟩ := hr (fun e => by have := congrArg List.length e; simp at this; omega)
        cases e
        exact ⟨_, by simpa using hc k _ (List.getElem?_eq_getElem (by rw [bv_length, hln]; exact hlt))⟩
      have HN := Lib.hid (show WInv (.slice (some ⟨g, 0, none⟩) l.length c) l x W (k + 1) (wr.setCell ⟨g, k, none⟩ (.int .u8 x.toNat)) from ⟨by
        have := hI.set hg k (.int .u8 x.toNat) (by omega)
        rwa [bv_set, rep_step l x hlt] at this, hK.setCell _ _ (.inr hg)⟩)
      have HG := Lib.hid hg
      clear hI hK hg hln
      go_wp2
      go_roundw
      case rel => exact ⟨k + 1, by omega, by go_num, HN.out⟩
      case measure => simp [intOf]; omega
    · have hkl : k = l.length := by omega
      have HI := Lib.hid hI
      have HKK := Lib.hid hK
      clear hI hK
      go_wp2
      go_end0
      refine ⟨rfl, ?_, HK.out.trans HKK.out⟩
      have := HI.out
      rw [hkl] at this
      simpa using this

/-- A page's list without room: nothing stands behind it. -/
theorem behind_abs (a : Option Addr) (n : Nat) (x y : UInt8) (hn : n ≤ 1000000000) :
    Calls Try.prog 89 #[.agg #[.slice a n n, .int .u8 x.toNat, .int .u8 y.toNat]] w fun e w' => e = .returned (.tuple #[]) ∧ Keep (fun _ => False) w w' := by
  have HK : Hid (Keep (fun _ => False) w (w.alloc (.cells #[.slice a n n, .int .u8 x.toNat, .int .u8 y.toNat] 70))) := (Keep.refl _ _).alloc _
  go_enter Try.func89, Try.ntmps89
  go_wp2
  go_loop [3] (fun i => i = .int .i64 n) (fun _ => 0)
  case atStart => rfl
  case round =>
    obtain rfl := hrel
    go_wp2
    go_end0
    exact ⟨rfl, HK.out⟩

def SInv (W : World) (k : Nat) (wr : World) : Prop := Keep (fun _ => False) W wr
theorem stands_abs (a : Option Addr) (n : Nat) (x y : UInt8) (hn : n ≤ 1000000000) (hv : Own w 5 1 (.slice a n n) n (bv (List.replicate n x))) :
    Calls Try.prog 87 #[.agg #[.slice a n n, .int .u8 x.toNat, .int .u8 y.toNat]] w (Fine w) := by
  have hbox := alloc_new w (.cells #[.slice a n n, .int .u8 x.toNat, .int .u8 y.toNat] 70)
  have HK : Hid (Keep (fun _ => False) w (w.alloc (.cells #[.slice a n n, .int .u8 x.toNat, .int .u8 y.toNat] 70))) := (Keep.refl _ _).alloc _
  have HB : Hid (∀ wr, Keep (fun _ => False) (w.alloc (.cells #[.slice a n n, .int .u8 x.toNat, .int .u8 y.toNat] 70)) wr → wr.cell? ⟨w.heap.size, 0, none⟩ = some (.slice a n n) ∧ wr.cell? ⟨w.heap.size, 1, none⟩ = some (.int .u8 x.toNat) ∧ wr.cell? ⟨w.heap.size, 2, none⟩ = some (.int .u8 y.toNat)) := Lib.hid fun wr k => by
    have := k.obj hbox (fun e => e)
    exact ⟨by rw [cell_of this]; rfl, by rw [cell_of this]; rfl, by rw [cell_of this]; rfl⟩
  have HV := Lib.hid hv
  clear hbox hv
  go_enter Try.func87, Try.ntmps87
  go_wp2
  generalize w.alloc (.cells #[.slice a n n, .int .u8 x.toNat, .int .u8 y.toNat] 70) = W at *
  go_loopw [4] (fun i wr => ∃ k : Nat, k ≤ n ∧ i = .int .i64 k ∧ SInv W k wr) (fun i _ => n - (intOf i).toNat)
  case atStart => exact ⟨0, Nat.zero_le _, rfl, Keep.refl _ _⟩
  case round =>
    obtain ⟨k, hk, rfl, hI⟩ := hrel
    by_cases hlt : k < n
    · obtain ⟨b0, b1, b2⟩ := HB.out wr hI
      obtain ⟨g, off, rfl, q⟩ : ∃ g off, a = some ⟨g, off, none⟩ ∧ wr.cell? ⟨g, off + k, none⟩ = some (.int .u8 x.toNat) := by
        have := (HV.out.keep (HK.out.trans hI) (fun _ _ h => h)).sl
        obtain ⟨_, _, _, e, _, _, hr⟩ := this
        cases e
        obtain ⟨g', off, e, hc⟩ := hr (fun e => by have := congrArg List.length e; simp at this; omega)
        cases e
        exact ⟨_, _, rfl, hc k _ (by simp [bv, hlt])⟩
      have HI := Lib.hid hI
      clear hI
      have hd : decide (n ≤ k) = false := by simp; omega
      have hd2 : decide (k < n) = true := by simp; omega
      go_wp2
      go_quiet (fail)
      go_wp2
      go_roundw
      case rel => exact ⟨k + 1, by omega, by go_num, HI.out.drewN _⟩
      case measure => simp [intOf]; omega
    · have hkl : k = n := by omega
      have HI := Lib.hid hI
      clear hI
      go_wp2
      go_ret
      exact ⟨rfl, HK.out.trans HI.out⟩
end
end Go.Proofs.Ytlnlgjifepjkbaa
