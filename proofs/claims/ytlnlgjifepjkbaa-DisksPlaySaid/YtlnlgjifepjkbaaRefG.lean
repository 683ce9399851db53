/- The reference's disk: Put, Read, Sure, Add. -/
import Derived.Test.YtlnlgjifepjkbaaRefF
namespace Go.Proofs.Ytlnlgjifepjkbaa
open Go.RowKit
set_option maxRecDepth 20000

section
variable {m : Nat} {v : Value} {rs : List RF} {burns : Bool} {fuse : Int} {dead : Bool} {w : World} {R : Nat → Prop} {d : D}

theorem rput_abs (h : IsRef w m R d) (hs : Sorted d.fs) (name : ByteArray) (b : Value) (l : List UInt8) (hS : Sl w 1 b l.length (bv l)) (hbm : blk b = some m → l = []) :
    Calls Try.prog 19 #[.pointer (some ⟨m, 0, none⟩), .string name, b] w (RDid w m R (putM d name l)) := by
  have HH := Lib.hid h
  obtain ⟨a, c, rfl⟩ := hS.form
  have hS' := hS
  have hll : l.length ≤ 9223372036854775807 := by
    obtain ⟨_, _, _, e, q1, q2, _⟩ := hS
    cases e
    unfold maxLen at q2
    omega
  have hB := rset_abs h hs name _ l hS hbm l.length (Nat.le_refl _)
  have hA : Calls Try.prog 40 #[.pointer (some ⟨m, 0, none⟩), .string name] w fun e w' => e = .returned (.int .i64 (askedE d.dead name)) ∧ w = w' := by
    obtain ⟨v, rs, burns, fuse, h1, h2, h3, rfl⟩ := h
    exact rasked_any h1 name
  have HB := Lib.hid hB
  clear hB hS hS' hbm h
  rcases asked_split d.dead name with e0 | e0 | e0
  case inl | inr.inl =>
    have hm : putM d name l = (d, askedE d.dead name) := doM_asked (by rw [e0]; decide)
    rw [hm]
    rw [e0] at hA ⊢
    have HA := Lib.hid hA
    clear hA e0 hm
    go_enter Try.func19, Try.ntmps19
    go_wp2_with (go_at_call 40; refine HA.out.mono ?_; rintro e w' ⟨rfl, rfl⟩)
    go_ret
    exact ⟨rfl, RNext.refl HH.out⟩
  case inr.inr =>
    rw [putM_set e0]
    rw [e0] at hA
    have HA := Lib.hid hA
    clear hA e0
    go_enter Try.func19, Try.ntmps19
    go_wp2_with (first | (go_at_call 40; refine HA.out.mono ?_; rintro e w' ⟨rfl, rfl⟩) | (go_at_call 42; refine HB.out.mono ?_; rintro e w1 ⟨rfl, k⟩; have K := Lib.hid k; clear k))
    go_ret
    exact ⟨rfl, K.out⟩

/-- What the reference's Read answers. -/
def RReadPost (w : World) (r : List UInt8 × Int) (e : Ending) (w' : World) : Prop :=
  ∃ a c, e = .returned (.tuple #[.slice a r.1.length c, .int .i64 r.2]) ∧ Own w' 5 1 (.slice a r.1.length c) r.1.length (bv r.1) ∧ Keep (fun _ => False) w w'

theorem rread_abs (h : IsRef w m R d) (name : ByteArray) :
    Calls Try.prog 24 #[.pointer (some ⟨m, 0, none⟩), .string name] w (RReadPost w (readM d name)) := by
  obtain ⟨v, rs, burns, fuse, h1, h2, h3, rfl⟩ := h
  have hA := rasked_any h1 name
  have hB := Lib.hid (rat_any h1 name)
  have h0 := h1.c0
  rcases asked_split d.dead name with e0 | e0 | e0
  case inl | inr.inl =>
    have hm : readM d name = ([], askedE d.dead name) := by simp [readM, e0]
    rw [hm]
    rw [e0] at hA ⊢
    have HA := Lib.hid hA
    clear hA e0 hm h1 h2 h3
    go_enter Try.func24, Try.ntmps24
    go_wp2_with (go_at_call 40; refine HA.out.mono ?_; rintro e w' ⟨rfl, rfl⟩)
    go_ret2
    exact ⟨none, 0, rfl, Own.nil _ _ _, Keep.refl _ _⟩
  case inr.inr =>
    rw [e0] at hA
    have HA := Lib.hid hA
    rcases atM_cases name rs with ⟨h5, h6⟩ | ⟨i, hi, h5, hn, h6⟩
    · have hm : readM d name = ([], 7) := by rw [h2] at h6; simp [readM, e0, h6]
      rw [hm]
      rw [h5] at hB
      clear hA e0 hm h1 h2 h3 h5 h6
      go_enter Try.func24, Try.ntmps24
      go_wp2_with (first | (go_at_call 40; refine HA.out.mono ?_; rintro e w' ⟨rfl, rfl⟩) | (go_at_call 41; refine hB.out.mono ?_; rintro e w' ⟨rfl, rfl⟩))
      go_ret2
      exact ⟨none, 0, rfl, Own.nil _ _ _, Keep.refl _ _⟩
    · have hm : readM d name = (rs[i].b, 0) := by rw [h2] at h6; simp [readM, e0, h6, RF.abs]
      rw [hm]
      rw [h5] at hB
      obtain ⟨g, c, rfl, q0, q1, q2, q3, q4, q5, q6⟩ := h1.at hi
      have hfew := h1.few
      have hiI : (i : Int) < rs.length := by omega
      have hsz := (h1.sizes _ (List.getElem_mem hi)).2
      have hbo := h1.bytes _ (List.getElem_mem hi)
      obtain ⟨a, c', hv⟩ := hbo.form
      rw [hv] at q1 hbo
      generalize rs[i].b = bb at *
      have HO := Lib.hid hbo
      clear hA e0 hm h1 h2 h3 h5 h6 hv hn q6 hbo
      go_enter Try.func24, Try.ntmps24
      go_wp2_with (first | (go_at_call 40; refine HA.out.mono ?_; rintro e w' ⟨rfl, rfl⟩) | (go_at_call 41; refine hB.out.mono ?_; rintro e w' ⟨rfl, rfl⟩) | (at_builtin; refine wpList_appB _ rfl (.const (.slice none 0 0)) (.tmp 26) rfl (.slice none 0 0) _ [] bb rfl rfl (Own.nil _ _ _) HO.out.sl (by simp; omega) ?_; intro a1 c1 w1 k1 k2 k3; simp only [List.nil_append] at k1 ⊢; have K1 := Lib.hid k1; have K2 := Lib.hid k2; clear k1 k2 k3))
      go_ret2
      exact ⟨a1, c1, rfl, K1.out, K2.out.mono (fun _ _ h => by simp [own] at h)⟩
end
end Go.Proofs.Ytlnlgjifepjkbaa
