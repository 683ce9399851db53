/- The reference's disk: Sure, Add. -/
import Derived.Test.YtlnlgjifepjkbaaRefG
namespace Go.Proofs.Ytlnlgjifepjkbaa
open Go.RowKit
set_option maxRecDepth 20000

section
variable {m : Nat} {v : Value} {rs : List RF} {burns : Bool} {fuse : Int} {dead : Bool} {w : World} {R : Nat → Prop} {d : D}

theorem rsure_abs (h : IsRef w m R d) (hs : Sorted d.fs) (name : ByteArray) :
    Calls Try.prog 18 #[.pointer (some ⟨m, 0, none⟩), .string name] w (RDid w m R (sureM d name)) := by
  have HH := Lib.hid h
  obtain ⟨v, rs, burns, fuse, h1, h2, h3, rfl⟩ := h
  have hA := rasked_any h1 name
  have hB := Lib.hid (rat_any h1 name)
  have h0 := h1.c0
  rcases asked_split d.dead name with e0 | e0 | e0
  case inl | inr.inl =>
    have hm : sureM d name = (d, askedE d.dead name) := doM_asked (by rw [e0]; decide)
    rw [hm]
    rw [e0] at hA ⊢
    have HA := Lib.hid hA
    clear hA e0 hm h1 h2 h3
    go_enter Try.func18, Try.ntmps18
    go_wp2_with (go_at_call 40; refine HA.out.mono ?_; rintro e w' ⟨rfl, rfl⟩)
    go_ret
    exact ⟨rfl, RNext.refl HH.out⟩
  case inr.inr =>
    rw [e0] at hA
    have HA := Lib.hid hA
    rcases atM_cases name rs with ⟨h5, h6⟩ | ⟨i, hi, h5, hn, h6⟩
    · have hm : sureM d name = (d, 7) := by rw [h2] at h6; exact doM_none e0 h6
      rw [hm]
      rw [h5] at hB
      clear hA e0 hm h1 h2 h3 h5 h6
      go_enter Try.func18, Try.ntmps18
      go_wp2_with (first | (go_at_call 40; refine HA.out.mono ?_; rintro e w' ⟨rfl, rfl⟩) | (go_at_call 41; refine hB.out.mono ?_; rintro e w' ⟨rfl, rfl⟩))
      go_ret
      exact ⟨rfl, RNext.refl HH.out⟩
    · obtain ⟨g, c, rfl, q0, q1, q2, q3, q4, q5, q6⟩ := h1.at hi
      have hfew := h1.few
      have hiI : (i : Int) < rs.length := by omega
      have hsz := (h1.sizes _ (List.getElem_mem hi)).2
      have hbo := h1.bytes _ (List.getElem_mem hi)
      have hslm := h1.sl_m (List.getElem_mem hi)
      have hm : sureM d name = setM d name rs[i].b rs[i].b.length := by rw [h2] at h6; exact sureM_old e0 h6 hsz
      rw [hm]
      rw [h5] at hB
      obtain ⟨a, c', hv⟩ := hbo.form
      rw [hv] at q1 hbo hslm
      generalize rs[i].b = bb at *
      have hBM : blk (.slice a bb.length c') = some m → bb = [] := by
        intro hb
        by_cases hc : c' = 0
        · obtain ⟨_, _, _, e, q1, q2, _⟩ := hbo
          cases e
          exact List.eq_nil_of_length_eq_zero (by omega)
        · cases a with
          | none => simp [blk] at hb
          | some a => simp [own, blk, hc] at hslm hb; exact absurd hb hslm
      have hd0 : Keep (fun _ => False) w w.drew := (Keep.refl _ _).drew
      have HD0 := Lib.hid hd0
      have HC := Lib.hid (rset_abs (HH.out.keep hd0 (fun _ _ h => h)) hs name (.slice a bb.length c') bb (hbo.sl.keep hd0 (fun _ _ h => h)) hBM bb.length (Nat.le_refl _))
      clear hA e0 hm h1 h2 h3 h5 h6 hv hn q6 hbo hBM hslm hd0
      go_enter Try.func18, Try.ntmps18
      go_wp2_with (first | (go_at_call 40; refine HA.out.mono ?_; rintro e w' ⟨rfl, rfl⟩) | (go_at_call 41; refine hB.out.mono ?_; rintro e w' ⟨rfl, rfl⟩))
      go_still_tail 19, (by kernel_rfl)
      change wpList _ _ _ _ _ w.drew
      go_wp2_with (go_at_call 42; refine HC.out.mono ?_; rintro e w1 ⟨rfl, k⟩; have K := Lib.hid k; clear k)
      go_ret
      exact ⟨rfl, K.out.ofKeep HD0.out⟩
end
end Go.Proofs.Ytlnlgjifepjkbaa
