/- The reference's disk: Add. -/
import Derived.Test.YtlnlgjifepjkbaaRefH
namespace Go.Proofs.Ytlnlgjifepjkbaa
open Go.RowKit
set_option maxRecDepth 20000

/-- What append makes lies as far up as what it was made of. -/
theorem app_blk {B : Nat} {v4 v5 : Value} {X Y : Prop} {W : World} (h : ∀ g, blk v4 = some g → B ≤ g) (hB : B ≤ W.heap.size) (h3 : X ∧ blk v5 = blk v4 ∨ blk v5 = some W.heap.size ∧ Y) : ∀ g, blk v5 = some g → B ≤ g := by
  intro g hg
  rcases h3 with ⟨_, h3⟩ | ⟨h3, _⟩
  · exact h g (h3 ▸ hg)
  · rw [h3] at hg; cases hg; exact hB

section
variable {m : Nat} {v : Value} {rs : List RF} {burns : Bool} {fuse : Int} {dead : Bool} {w : World} {R : Nat → Prop} {d : D}

/-- What holds on the way, of a slice made anew. -/
structure Mid (w w' : World) (v : Value) (l : List UInt8) : Prop where
  own : Own w' 5 1 v l.length (bv l)
  keep : Keep (fun _ => False) w w'
  blk : ∀ g, blk v = some g → w.heap.size ≤ g
theorem Mid.nil (w : World) : Mid w w (.slice none 0 0) [] := ⟨Own.nil _ _ _, Keep.refl _ _, fun g h => by simp [Proofs.Ytlnlgjifepjkbaa.blk] at h⟩
theorem Mid.app {w W W' : World} {v : Value} {l k : List UInt8} {a : Option Addr} {c n : Nat} (h : Mid w W v l) (h1 : Own W' 5 1 (.slice a (l ++ k).length c) (l ++ k).length (bv (l ++ k))) (h2 : Keep (fun i => Proofs.Ytlnlgjifepjkbaa.own v = some i ∧ 0 < n) W W')
    (h3 : Proofs.Ytlnlgjifepjkbaa.own (.slice a (l ++ k).length c) = Proofs.Ytlnlgjifepjkbaa.own v ∧ Proofs.Ytlnlgjifepjkbaa.blk (.slice a (l ++ k).length c) = Proofs.Ytlnlgjifepjkbaa.blk v ∨ Proofs.Ytlnlgjifepjkbaa.blk (.slice a (l ++ k).length c) = some W.heap.size ∧ Proofs.Ytlnlgjifepjkbaa.own (.slice a (l ++ k).length c) = some W.heap.size) : Mid w W' (.slice a (l ++ k).length c) (l ++ k) :=
  ⟨h1, h.keep.trans' h2 (fun _ _ h => h) (fun i hi e => by have := h.blk i (own_blk e.1); omega), app_blk h.blk h.keep.size h3⟩

theorem radd_asked (h : IsRef w m R d) (name : ByteArray) (b : Value) (l : List UInt8) (hz : askedE d.dead name ≠ 0) :
    Calls Try.prog 17 #[.pointer (some ⟨m, 0, none⟩), .string name, b] w (RDid w m R (addM d name l)) := by
  have HH := Lib.hid h
  obtain ⟨v, rs, burns, fuse, h1, h2, h3, rfl⟩ := h
  have hA := rasked_any h1 name
  have hm : addM d name l = (d, askedE d.dead name) := doM_asked hz
  rw [hm]
  rcases asked_split d.dead name with e0 | e0 | e0
  case inl | inr.inl =>
    rw [e0] at hA ⊢
    have HA := Lib.hid hA
    clear hA e0 hm h1 h2 h3 hz
    go_enter Try.func17, Try.ntmps17
    go_wp2_with (go_at_call 40; refine HA.out.mono ?_; rintro e w' ⟨rfl, rfl⟩)
    go_ret
    exact ⟨rfl, RNext.refl HH.out⟩
  case inr.inr => exact absurd e0 hz

theorem radd_new (h : IsRef w m R d) (hs : Sorted d.fs) (name : ByteArray) (b : Value) (l : List UInt8) (hS : Sl w 1 b l.length (bv l)) (hbm : blk b = some m → l = []) (hz : askedE d.dead name = 0) (hf : findM name d.fs = none) :
    Calls Try.prog 17 #[.pointer (some ⟨m, 0, none⟩), .string name, b] w (RDid w m R (addM d name l)) := by
  have HC := Lib.hid (rset_abs h hs name b l hS hbm 0 (Nat.zero_le _))
  obtain ⟨v, rs, burns, fuse, h1, h2, h3, rfl⟩ := h
  have hA := rasked_any h1 name
  have hB := Lib.hid (rat_any h1 name)
  rw [addM_new hz hf]
  rw [hz] at hA
  have HA := Lib.hid hA
  have hat : atM name rs = -1 := by
    rcases atM_cases name rs with ⟨h5, _⟩ | ⟨i, hi, h5, hn, h6⟩
    · exact h5
    · rw [h2, hf] at h6; cases h6
  rw [hat] at hB
  obtain ⟨a, c, rfl⟩ := hS.form
  clear hA h1 h2 h3 hz hat hS hbm hf
  go_enter Try.func17, Try.ntmps17
  go_wp2_with (first | (go_at_call 40; refine HA.out.mono ?_; rintro e w' ⟨rfl, rfl⟩) | (go_at_call 41; refine hB.out.mono ?_; rintro e w' ⟨rfl, rfl⟩) | (go_at_call 42; refine HC.out.mono ?_; rintro e w1 ⟨rfl, k⟩; have K := Lib.hid k; clear k))
  go_ret
  exact ⟨rfl, K.out⟩

end
end Go.Proofs.Ytlnlgjifepjkbaa
