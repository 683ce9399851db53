/- Both disks have the same: Same. -/
import Derived.Test.YtlnlgjifepjkbaaLawI
namespace Go.Proofs.Ytlnlgjifepjkbaa
open Go.RowKit
set_option maxRecDepth 20000

section
variable {w : World} {bd m : Nat} {S R : Nat → Prop} {d : D}

/-- Ahead of each round: what stood stands. -/
def SameInv (w wr : World) : Prop := Keep (fun _ => False) w wr

set_option maxHeartbeats 4000000 in
theorem same17_abs (hB : Both w bd m S R d) :
    Calls Try.prog 8 #[.pointer (some ⟨bd, 0, none⟩), .pointer (some ⟨m, 0, none⟩)] w (Fine w) := by
  have HB := Lib.hid hB
  have HN := Lib.hid (names_abs hB.p)
  have HD := Lib.hid fun W (k : Keep (fun _ => False) w W) => dead_abs (hB.p.keep k (fun _ _ h => h))
  have H1 := Lib.hid fun W name (k : Keep (fun _ => False) w W) => read_abs (hB.p.keep k (fun _ _ h => h)) name
  have H2 := Lib.hid fun W name (k : Keep (fun _ => False) w W) => rread_abs (hB.r.keep k (fun _ _ h => h)) name
  obtain ⟨v, rs, burns, fuse, h1, h2, h3, hR0⟩ := hB.r
  have hdl : d.fs.length = rs.length := by rw [← h2]; simp
  have hfew := h1.few
  obtain ⟨a, c, hv⟩ := h1.files.form
  subst hv
  have HR := Lib.hid h1
  have HM := Lib.hid h2
  have HDL := Lib.hid hdl
  clear hB h1 h2 h3 hR0 hdl
  go_enter Try.func8, Try.ntmps8
  go_wp2_with fail
  refine HN.out.mono ?_
  rintro e W ⟨an, rfl, k1, k2, k3⟩
  simp only [List.length_map, HDL.out] at k1 k2 k3 ⊢
  have K1 := Lib.hid k1
  have K2 := Lib.hid k2
  have HDD := Lib.hid fun n => ((HD.out (W.drewN n) (k2.drewN n)).mono fun _ _ h => ⟨h.1, h.2.symm⟩ : Calls Try.prog 15 #[.pointer (some ⟨bd, 0, none⟩)] (W.drewN n) fun e w' => e = .returned (.bool d.dead) ∧ w' = W.drewN n)
  have q0 := k2.cell HR.out.c0 (fun h => h)
  have q3 := k2.cell HR.out.c3 (fun h => h)
  clear k1 k2 k3
  go_wp2
  generalize d.dead = dd at *
  go_quiet ((go_at_call 15; exact Calls.quiet_of_same (HDD.out _)))
  have KW : Hid (Keep (fun _ => False) W (W.drewN nq)) := Lib.hid ((Keep.refl _ _).drewN nq)
  generalize W.drewN nq = W0 at *
  go_wp2
  go_loopw [6] (fun i wr => ∃ k : Nat, k ≤ rs.length ∧ i = .int .i64 k ∧ SameInv W wr) (fun i _ => rs.length - (intOf i).toNat)
  case atStart => exact ⟨0, Nat.zero_le _, rfl, KW.out⟩
  case round =>
    obtain ⟨k, hk, rfl, hI⟩ := hrel
    have HI := Lib.hid (show Keep (fun _ => False) W wr from hI)
    clear hI
    by_cases hlt : k < rs.length
    · obtain ⟨gn, off, rfl, n0⟩ : ∃ gn off, an = some ⟨gn, off, none⟩ ∧ wr.cell? ⟨gn, off + k, none⟩ = some (.string rs[k].name) := by
        obtain ⟨_, a', c', e, _, _, hr⟩ := (K1.out.keep HI.out (fun _ _ h => h)).sl
        cases e
        obtain ⟨gb, off, h1, h2⟩ := hr (fun e => by have h9 := congrArg List.length e; simp at h9; have := HDL.out; rw [h9] at this; simp at this; omega)
        exact ⟨gb, off, h1, h2 k _ (by rw [← HM.out]; simp [strv, hlt, RF.abs])⟩
      obtain ⟨g, cv, e, r0, _, _, _, _, _, _⟩ := HR.out.at hlt
      cases e
      obtain ⟨nm, hnm⟩ : ∃ nm, rs[k].name = nm := ⟨_, rfl⟩
      rw [hnm] at n0 r0
      clear hnm
      have HC := Lib.hid fun W' (k : Keep (fun _ => False) wr W') => (⟨k.cell n0 (fun h => h), ((K2.out.trans HI.out).trans k).cell HR.out.c0 (fun h => h), ((K2.out.trans HI.out).trans k).cell r0 (fun h => h)⟩ : W'.cell? ⟨gn, off + _, none⟩ = _ ∧ W'.cell? ⟨m, 0, none⟩ = _ ∧ W'.cell? ⟨g, _, none⟩ = _)
      clear r0
      have h1' := H1.out wr nm (K2.out.trans HI.out)
      have h2' := fun Wa (k : Keep (fun _ => False) wr Wa) => H2.out Wa nm ((K2.out.trans HI.out).trans k)
      obtain ⟨q, hq⟩ : ∃ q, readM d nm = q := ⟨_, rfl⟩
      rw [hq] at h1' h2'
      obtain ⟨ql, qe⟩ := q
      clear hq
      have H1' := Lib.hid h1'
      have H2' := Lib.hid h2'
      clear h1' h2'
      go_wp2_with fail
      refine H1'.out.mono ?_
      rintro e Wa ⟨aa, rfl, s1, s2, s3⟩
      simp only at s1 s2 s3 ⊢
      have n1 := (HC.out Wa s2).1
      have S1 := Lib.hid s1
      have S2 := Lib.hid s2
      clear s1 s2 s3
      go_wp2_with fail
      refine (H2'.out Wa S2.out).mono ?_
      rintro e Wb ⟨ab, cb, rfl, t1, t2⟩
      simp only at t1 t2 ⊢
      have T1 := Lib.hid t1
      have T2 := Lib.hid t2
      clear t1 t2 n0 n1
      go_wp2_with fail
      have KD := Lib.hid ((S2.out.trans T2.out).drew)
      have HSS := Lib.hid (same_abs (w := Wb.drew) _ _ ql ql (S1.out.sl.keep (T2.out.drew) (fun _ _ h => h)) (T1.out.sl.keep ((Keep.refl (fun _ => False) _).drew) (fun _ _ h => h)))
      have n2 := HC.out Wb.drew KD.out
      have HN2 := Lib.hid n2
      clear n2
      go_region_held3 (fun w' => w'.cell? ⟨gn, off + k, none⟩ = some (.string nm) ∧ w'.cell? ⟨m, 0, none⟩ = some (.slice (some ⟨g, 0, none⟩) rs.length c) ∧ w'.cell? ⟨g, k * 3, none⟩ = some (.string nm)) (first | exact HN2.out | exact HC.out _ (KD.out.trans SS.out) | go_keep) (first | (go_at_call 26; refine HSS.out.mono ?_; rintro e Wc ⟨rfl, ss⟩; have SS := Lib.hid ss; clear ss))
      all_goals
        go_wp2
        go_roundw
        case rel => exact ⟨k + 1, by omega, by go_num, (HI.out.trans KD.out).trans SS.out⟩
        case measure => simp [intOf]; omega
    · have hkl : k = rs.length := by omega
      go_wp2
      go_ret
      exact ⟨rfl, K2.out.trans HI.out⟩
end
end Go.Proofs.Ytlnlgjifepjkbaa
