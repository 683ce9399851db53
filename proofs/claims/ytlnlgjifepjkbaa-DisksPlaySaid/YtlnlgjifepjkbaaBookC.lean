/- A book of two pages: Apart. -/
import Derived.Test.YtlnlgjifepjkbaaBookB
namespace Go.Proofs.Ytlnlgjifepjkbaa
open Go.RowKit
set_option maxRecDepth 20000

/-- A book of two pages, of lists without room, that share nothing. -/
structure Two (w : World) (k : Nat) (pv : Value) (aa ac : Option Addr) (n m : Nat) (la lc : List UInt8) : Prop where
  book : BookAt w k pv ([page (.slice aa n n) 1 129] ++ [page (.slice ac m m) 2 130])
  a : Own w 5 1 (.slice aa n n) n (bv la)
  c : Own w 5 1 (.slice ac m m) m (bv lc)
  sep : ∀ g, own (.slice aa n n) = some g → own (.slice ac m m) ≠ some g
  ak : own (.slice aa n n) ≠ some k
  ck : own (.slice ac m m) ≠ some k

section
variable {w W : World} {k : Nat} {pv : Value} {aa ac : Option Addr} {n m : Nat} {la lc : List UInt8}

theorem BookAt.two {p1 p2 : Value} (h : BookAt w k pv ([p1] ++ [p2])) : ∃ g c, pv = .slice (some ⟨g, 0, none⟩) 2 c ∧ own pv = some g ∧ w.cell? ⟨k, 0, none⟩ = some (.slice (some ⟨g, 0, none⟩) 2 c) ∧ w.cell? ⟨g, 0, none⟩ = some p1 ∧ w.cell? ⟨g, 1, none⟩ = some p2 := by
  have h0 : w.cell? ⟨k, 0, none⟩ = some pv := by rw [cell_of h.book]; rfl
  have hs := h.pages.sl
  obtain ⟨_, a, c, rfl, hc, _, hr⟩ := h.pages
  have hc2 : 2 ≤ c := hc
  rcases hr with rfl | ⟨g, cur, rfl, hg, _, _⟩
  · omega
  · obtain ⟨_, a', c', e, _, _, hr⟩ := hs
    cases e
    obtain ⟨g', off, e, hcell⟩ := hr (by simp)
    cases e
    exact ⟨g, c, rfl, by simp [own]; omega, h0, by simpa using hcell 0 p1 rfl, by simpa using hcell 1 p2 rfl⟩
theorem Two.pv_a (h : Two w k pv aa ac n m la lc) {g : Nat} (hg : own pv = some g) : own (.slice aa n n) ≠ some g := fun e => by
  obtain ⟨cur, hc⟩ := h.a.elem e
  obtain ⟨cur', hc'⟩ := h.book.pages.elem hg
  rw [hc] at hc'
  simp at hc'
theorem Two.pv_c (h : Two w k pv aa ac n m la lc) {g : Nat} (hg : own pv = some g) : own (.slice ac m m) ≠ some g := fun e => by
  obtain ⟨cur, hc⟩ := h.c.elem e
  obtain ⟨cur', hc'⟩ := h.book.pages.elem hg
  rw [hc] at hc'
  simp at hc'
theorem Two.keep {w' : World} (h : Two w k pv aa ac n m la lc) (kp : Keep (fun _ => False) w w') : Two w' k pv aa ac n m la lc :=
  ⟨h.book.keep kp (fun h => h) (fun _ _ h => h), h.a.keep kp (fun _ _ h => h), h.c.keep kp (fun _ _ h => h), h.sep, h.ak, h.ck⟩
theorem Two.wroteA {w' : World} {l : List UInt8} (h : Two w k pv aa ac n m la lc) (ho : Own w' 5 1 (.slice aa n n) n (bv l)) (kp : Keep (fun i => own (.slice aa n n) = some i) w w') : Two w' k pv aa ac n m l lc :=
  ⟨h.book.keep kp (fun e => h.ak e) (fun g hg e => h.pv_a hg e), ho, h.c.keep kp (fun g hg e => h.sep g e hg), h.sep, h.ak, h.ck⟩
theorem Two.wroteC {w' : World} {l : List UInt8} (h : Two w k pv aa ac n m la lc) (ho : Own w' 5 1 (.slice ac m m) m (bv l)) (kp : Keep (fun i => own (.slice ac m m) = some i) w w') : Two w' k pv aa ac n m la l :=
  ⟨h.book.keep kp (fun e => h.ck e) (fun g hg e => h.pv_c hg e), h.a.keep kp (fun g hg e => h.sep g hg e), ho, h.sep, h.ak, h.ck⟩

/-- What holds ahead of round i of the first loop. -/
def Rel1 (W : World) (k : Nat) (pv : Value) (aa ac : Option Addr) (n m : Nat) (la lc : List UInt8) (i : Nat) (w : World) : Prop :=
  Two w k pv aa ac n m (if 0 < i then List.replicate n 1 else la) (if 1 < i then List.replicate m 2 else lc) ∧ Keep (fun i => own (.slice aa n n) = some i ∨ own (.slice ac m m) = some i) W w
def Rel2 (W : World) (k : Nat) (pv : Value) (aa ac : Option Addr) (n m : Nat) (w : World) : Prop :=
  Two w k pv aa ac n m (List.replicate n 1) (List.replicate m 2) ∧ Keep (fun i => own (.slice aa n n) = some i ∨ own (.slice ac m m) = some i) W w
def ApartPost (W : World) (aa ac : Option Addr) (n m : Nat) (e : Ending) (w : World) : Prop :=
  e = .returned (.bool true) ∧ Keep (fun i => own (.slice aa n n) = some i ∨ own (.slice ac m m) = some i) W w

theorem write_at {a : Option Addr} {l : List UInt8} (x y : UInt8) (h : Own w 5 1 (.slice a n n) n (bv l)) : Calls Try.prog 88 #[.agg #[.slice a n n, .int .u8 x.toNat, .int .u8 y.toNat]] w fun e w' => e = .returned (.tuple #[]) ∧ Own w' 5 1 (.slice a n n) n (bv (List.replicate n x)) ∧ Keep (fun i => own (.slice a n n) = some i) w w' := by
  have e : l.length = n := by simpa using h.len
  subst e
  refine (write_abs _ l x y h).mono ?_
  rintro e w' ⟨h1, h2, h3⟩
  rw [List.length_replicate] at h2
  exact ⟨h1, h2, h3⟩
theorem m_write (v : Value) (x y : Int) (w : World) : (method 219 70 (.agg #[v, .int .u8 x, .int .u8 y]) "countinghouse/countinghouselaw01.write").run Try.prog w = .ok (88, .agg #[v, .int .u8 x, .int .u8 y]) w := by kernel_rfl
theorem m_behind (v : Value) (x y : Int) (w : World) : (method 219 70 (.agg #[v, .int .u8 x, .int .u8 y]) "countinghouse/countinghouselaw01.writeBehind").run Try.prog w = .ok (89, .agg #[v, .int .u8 x, .int .u8 y]) w := by kernel_rfl
theorem m_stands (v : Value) (x y : Int) (w : World) : (method 219 70 (.agg #[v, .int .u8 x, .int .u8 y]) "countinghouse/countinghouselaw01.stands").run Try.prog w = .ok (87, .agg #[v, .int .u8 x, .int .u8 y]) w := by kernel_rfl

set_option maxHeartbeats 1000000 in
theorem apart_abs (h : Two w k pv aa ac n m la lc) (hn : n ≤ 1000000000) (hm : m ≤ 1000000000) :
    Calls Try.prog 27 #[.pointer (some ⟨k, 0, none⟩)] w (ApartPost w aa ac n m) := by
  obtain ⟨g, c, rfl, hg, h0, _, _⟩ := h.book.two
  have H := Lib.hid h
  have HG := Lib.hid hg
  have hw := m_write
  have hbh := m_behind
  have hst := m_stands
  clear h hg
  go_enter Try.func27, Try.ntmps27
  go_wp2
  go_loopw [3] (fun i wr => ∃ j : Nat, j ≤ 2 ∧ i = .int .i64 j ∧ Rel1 w k (.slice (some ⟨g, 0, none⟩) 2 c) aa ac n m la lc j wr) (fun i _ => 2 - (intOf i).toNat)
  case atStart => exact ⟨0, Nat.zero_le _, rfl, by simpa using H.out, Keep.refl _ _⟩
  case round =>
    obtain ⟨j, hj, rfl, hT, hK⟩ := hrel
    obtain ⟨g', c', e, _, b0, b1, b2⟩ := hT.book.two
    cases e
    unfold page at b1 b2
    have HT := Lib.hid hT
    have HK := Lib.hid hK
    clear hT hK
    rcases (by omega : j = 0 ∨ j = 1 ∨ j = 2) with rfl | rfl | rfl
    · have HW := Lib.hid (write_at 1 129 HT.out.a)
      go_wp2_with (refine HW.out.mono ?_; rintro e w2 ⟨rfl, k1, k2⟩; have K1 := Lib.hid k1; have K2 := Lib.hid k2; clear k1 k2)
      go_roundw
      case rel => exact ⟨1, by omega, by go_num, HT.out.wroteA K1.out K2.out, HK.out.trans' K2.out (fun _ _ h => h) (fun _ _ h => .inl h)⟩
      case measure => simp [intOf]
    · have HW := Lib.hid (write_at 2 130 HT.out.c)
      go_wp2_with (refine HW.out.mono ?_; rintro e w2 ⟨rfl, k1, k2⟩; have K1 := Lib.hid k1; have K2 := Lib.hid k2; clear k1 k2)
      go_roundw
      case rel => exact ⟨2, by omega, by go_num, HT.out.wroteC K1.out K2.out, HK.out.trans' K2.out (fun _ _ h => h) (fun _ _ h => .inr h)⟩
      case measure => simp [intOf]
    · have HR : Hid (Rel2 w k (.slice (some ⟨g, 0, none⟩) 2 c) aa ac n m wr) := Lib.hid ⟨HT.out, HK.out⟩
      clear b1 b2 HT HK
      rw [show ((2 : Nat) : Int) = 2 from rfl]
      go_wp2
      clear b0
      go_loopw [4] (fun i wr => ∃ j : Nat, j ≤ 2 ∧ i = .int .i64 j ∧ Rel2 w k (.slice (some ⟨g, 0, none⟩) 2 c) aa ac n m wr) (fun i _ => 2 - (intOf i).toNat)
      case atStart => exact ⟨0, Nat.zero_le _, rfl, HR.out⟩
      case round =>
        obtain ⟨j, hj, rfl, hT, hK⟩ := hrel
        obtain ⟨g', c', e, _, b0, b1, b2⟩ := hT.book.two
        cases e
        unfold page at b1 b2
        have HT := Lib.hid hT
        have HK := Lib.hid hK
        clear hT hK HR
        rcases (by omega : j = 0 ∨ j = 1 ∨ j = 2) with rfl | rfl | rfl
        · have HW := Lib.hid (behind_abs (w := wr) aa n 1 129 hn)
          go_wp2_with (refine HW.out.mono ?_; rintro e w2 ⟨rfl, k2⟩; have K2 := Lib.hid k2; clear k2)
          go_roundw
          case rel => exact ⟨1, by omega, by go_num, HT.out.keep K2.out, HK.out.trans' K2.out (fun _ _ h => h) (fun _ _ h => h.elim)⟩
          case measure => simp [intOf]
        · have HW := Lib.hid (behind_abs (w := wr) ac m 2 130 hm)
          go_wp2_with (refine HW.out.mono ?_; rintro e w2 ⟨rfl, k2⟩; have K2 := Lib.hid k2; clear k2)
          go_roundw
          case rel => exact ⟨2, by omega, by go_num, HT.out.keep K2.out, HK.out.trans' K2.out (fun _ _ h => h) (fun _ _ h => h.elim)⟩
          case measure => simp [intOf]
        · have HR : Hid (Rel2 w k (.slice (some ⟨g, 0, none⟩) 2 c) aa ac n m wr) := Lib.hid ⟨HT.out, HK.out⟩
          clear b1 b2 HT HK
          rw [show ((2 : Nat) : Int) = 2 from rfl]
          go_wp2
          clear b0
          go_loopw [5] (fun i wr => ∃ j : Nat, j ≤ 2 ∧ i = .int .i64 j ∧ Rel2 w k (.slice (some ⟨g, 0, none⟩) 2 c) aa ac n m wr) (fun i _ => 2 - (intOf i).toNat)
          case atStart => exact ⟨0, Nat.zero_le _, rfl, HR.out⟩
          case round =>
            obtain ⟨j, hj, rfl, hT, hK⟩ := hrel
            obtain ⟨g', c', e, _, b0, b1, b2⟩ := hT.book.two
            cases e
            unfold page at b1 b2
            have HT := Lib.hid hT
            have HK := Lib.hid hK
            clear hT hK HR
            rcases (by omega : j = 0 ∨ j = 1 ∨ j = 2) with rfl | rfl | rfl
            · have HW := Lib.hid (stands_abs aa n 1 129 hn HT.out.a)
              go_wp2_with (refine HW.out.mono ?_; rintro e w2 ⟨rfl, k2⟩; have K2 := Lib.hid k2; clear k2)
              go_roundw
              case rel => exact ⟨1, by omega, by go_num, HT.out.keep K2.out, HK.out.trans' K2.out (fun _ _ h => h) (fun _ _ h => h.elim)⟩
              case measure => simp [intOf]
            · have HW := Lib.hid (stands_abs ac m 2 130 hm HT.out.c)
              go_wp2_with (refine HW.out.mono ?_; rintro e w2 ⟨rfl, k2⟩; have K2 := Lib.hid k2; clear k2)
              go_roundw
              case rel => exact ⟨2, by omega, by go_num, HT.out.keep K2.out, HK.out.trans' K2.out (fun _ _ h => h) (fun _ _ h => h.elim)⟩
              case measure => simp [intOf]
            · go_wp2
              go_ret
              exact ⟨rfl, HK.out⟩
end
end Go.Proofs.Ytlnlgjifepjkbaa
