/- The reference's disk: Drop, walked. -/
import Derived.Test.YtlnlgjifepjkbaaRefK
namespace Go.Proofs.Ytlnlgjifepjkbaa
open Go.RowKit
set_option maxRecDepth 20000

section
variable {m : Nat} {v : Value} {rs : List RF} {burns : Bool} {fuse : Int} {dead : Bool} {w : World} {R : Nat → Prop} {d : D}

/-- What Drop makes. -/
def RDel (w : World) (m : Nat) (rs : List RF) (burns : Bool) (fuse : Int) (dead : Bool) (i : Nat) (e : Ending) (w' : World) : Prop :=
  e = .returned (.int .i64 0) ∧ ∃ v' fuse', RefAt w' m v' (rs.take i ++ rs.drop (i + 1)) burns fuse' dead ∧ burned (if burns then fuse else -1) = (if burns then fuse' else -1) ∧ Keep (fun i => i = m) w w' ∧ (∀ g, own v' = some g → w.heap.size ≤ g)

set_option maxHeartbeats 4000000 in
theorem rdrop_go (h : RefAt w m v rs burns fuse dead) (name : ByteArray) (hz0 : askedE dead name = 0) (hz : (if burns then fuse else -1) ≠ 0) {i : Nat} (hi : i < rs.length) (hat : atM name rs = i) :
    Calls Try.prog 21 #[.pointer (some ⟨m, 0, none⟩), .string name] w (RDel w m rs burns fuse dead i) := by
  have hA := rasked_any h name
  rw [hz0] at hA
  have HA := Lib.hid hA
  have hAt := Lib.hid (rat_any h name)
  rw [hat] at hAt
  have hB := Lib.hid (burn_go h hz)
  obtain ⟨g, cv, rfl, _, _, _, _, _, hcv, hcm⟩ := h.at hi
  have hfew := h.few
  have hiI : (i : Int) < rs.length := by omega
  have HI := Lib.hid hi
  have HCV := Lib.hid hcm
  clear h hA hz0 hz hat hcm
  go_enter Try.func21, Try.ntmps21
  go_wp2_with (first | (go_at_call 40; refine HA.out.mono ?_; rintro e w' ⟨rfl, rfl⟩) | (go_at_call 41; refine hAt.out.mono ?_; rintro e w' ⟨rfl, rfl⟩) | (go_at_call 44; refine hB.out.mono ?_; rintro e w1 ⟨rfl, fuse', k1, k2, k3⟩; have x0 := k1.c0; have x1 := free_of k1.disk 0; have K1 := Lib.hid k1; have K2 := Lib.hid k2; have K3 := Lib.hid k3; clear k1 k2 k3))
  have kcv : ¬ cv = i := by omega
  have hk0 : Keep (fun _ => False) w1 w1.drew := (Keep.refl _ _).drew
  have HK0 := Lib.hid hk0
  have HR := Lib.hid (K1.out.keep hk0 (fun _ _ h => h))
  clear hk0
  have b1 : (0 : Int) ≤ i := by omega
  have b2 : (i : Int) ≤ cv := by omega
  have b3 : (i : Int) + 1 ≤ rs.length := by omega
  have b4 : (0 : Int) ≤ (i : Int) + 1 := by omega
  have b5 : (rs.length : Int) ≤ cv := by omega
  have b6 : IntKind.i64.wrap ((i : Int) + 1) = (i : Int) + 1 := by rw [IntKind.wrap_i64]; omega
  go_region_law (first
    | (refine step_appF _ rfl (.tmp 28) (.tmp 35) rfl (.slice a4 i c4) (.slice (if cv = i + 1 then (some ⟨g, 0, none⟩) else (some ⟨g, 0, none⟩ : Option Addr).map (·.add ((i + 1) * 3))) (rs.length - (i + 1)) (cv - (i + 1))) (rs.take i) (rs.drop (i + 1)) (rs.length - (i + 1)) i (by simp [Act.eval, Act.put]) (by simp [Act.eval, Act.put, Addr.add]) P1.out (drop_src (HR.out.keep P2.out (fun _ _ h => h)) HI.out) (rcs_one (fun r hr => (HR.out.keep P2.out (fun _ _ h => h)).bytes r (List.mem_of_mem_drop hr))) (by omega) ?_; intro a5 c5 w5 p1 p2 p3; have A5 := Lib.hid (app_above A4.out P2.out.size p3); have K5 : Hid (Keep (fun _ => False) w1.drew w5) := Lib.hid (P2.out.trans' p2 (fun _ _ h => h) (fun i h e => by have := A4.out i e.1; omega)); have P5 := Lib.hid p1; have e0 := (HR.out.keep K5.out (fun _ _ h => h)).c0; have e1 := free_of (HR.out.keep K5.out (fun _ _ h => h)).disk 0; clear p1 p2 p3)
    | (refine step_appF _ rfl (.const (.slice none 0 0)) (.tmp 27) rfl (.slice none 0 0) (.slice (some ⟨g, 0, none⟩) i cv) [] (rs.take i) i 0 rfl (by simp [Act.eval, Act.put]) (Own.nil _ _ _) (take_src HR.out (Nat.le_of_lt HI.out) HCV.out hcv) (rcs_one (fun r hr => HR.out.bytes r (List.mem_of_mem_take hr))) (by omega) ?_; intro a4 c4 w4 p1 p2 p3; simp only [List.nil_append, Nat.zero_add] at p1 p3 ⊢; have A4 := Lib.hid (app_above (B := w1.drew.heap.size) (fun g h => by simp [own] at h) (Nat.le_refl _) p3); have P1 := Lib.hid p1; have P2 : Hid (Keep (fun _ => False) w1.drew w4) := Lib.hid (p2.mono (fun i _ h => by simp [own] at h)); have d0 := (HR.out.keep P2.out (fun _ _ h => h)).c0; clear p1 p2 p3))
  all_goals
    go_wp2
    all_goals
      go_ret
      have hW : Keep (fun i => i = m) w w5 := (K3.out.trans' HK0.out (fun _ _ h => h) (fun _ _ h => h.elim)).trans' K5.out (fun _ _ h => h) (fun _ _ h => h.elim)
      exact ⟨rfl, _, fuse', del_close HR.out K5.out P5.out A5.out HI.out, K2.out, hW.setCell ⟨m, 0, none⟩ _ (.inr rfl), fun g hg => Nat.le_trans (Nat.le_trans K3.out.size HK0.out.size) (A5.out g hg)⟩

theorem rdrop_burnt (h : RefAt w m v rs true 0 dead) (name : ByteArray) (hz0 : askedE dead name = 0) {i : Nat} (hi : i < rs.length) (hat : atM name rs = i) :
    Calls Try.prog 21 #[.pointer (some ⟨m, 0, none⟩), .string name] w fun e w' => e = .returned (.int .i64 17) ∧ w' = w.setCell ⟨m, 3, none⟩ (.bool true) := by
  have hA := rasked_any h name
  rw [hz0] at hA
  have HA := Lib.hid hA
  have hAt := Lib.hid (rat_any h name)
  rw [hat] at hAt
  have hB := Lib.hid (burn_no h)
  clear h hA hz0 hat
  go_enter Try.func21, Try.ntmps21
  go_wp2_with (first | (go_at_call 40; refine HA.out.mono ?_; rintro e w' ⟨rfl, rfl⟩) | (go_at_call 41; refine hAt.out.mono ?_; rintro e w' ⟨rfl, rfl⟩) | (go_at_call 44; refine hB.out.mono ?_; rintro e w1 ⟨rfl, rfl⟩))
  go_ret
  exact ⟨rfl, rfl⟩

theorem rdrop_abs (h : IsRef w m R d) (hs : Sorted d.fs) (name : ByteArray) :
    Calls Try.prog 21 #[.pointer (some ⟨m, 0, none⟩), .string name] w (RDid w m R (dropM d name)) := by
  have HH := Lib.hid h
  obtain ⟨v, rs, burns, fuse, h1, h2, h3, rfl⟩ := h
  rcases asked_split d.dead name with e0 | e0 | e0
  case inl | inr.inl =>
    have hA := rasked_any h1 name
    have hm : dropM d name = (d, askedE d.dead name) := doM_asked (by rw [e0]; decide)
    rw [hm]
    rw [e0] at hA ⊢
    have HA := Lib.hid hA
    clear hA e0 hm h1 h2 h3 hs
    go_enter Try.func21, Try.ntmps21
    go_wp2_with (go_at_call 40; refine HA.out.mono ?_; rintro e w' ⟨rfl, rfl⟩)
    go_ret
    exact ⟨rfl, RNext.refl HH.out⟩
  case inr.inr =>
    rcases atM_cases name rs with ⟨h5, h6⟩ | ⟨i, hi, h5, hn, h6⟩
    · have hA := rasked_any h1 name
      have hB := Lib.hid (rat_any h1 name)
      have hm : dropM d name = (d, 7) := by rw [h2] at h6; exact doM_none e0 h6
      rw [hm]
      rw [h5] at hB
      rw [e0] at hA
      have HA := Lib.hid hA
      clear hA e0 hm h1 h2 h3 h5 h6 hs
      go_enter Try.func21, Try.ntmps21
      go_wp2_with (first | (go_at_call 40; refine HA.out.mono ?_; rintro e w' ⟨rfl, rfl⟩) | (go_at_call 41; refine hB.out.mono ?_; rintro e w' ⟨rfl, rfl⟩))
      go_ret
      exact ⟨rfl, RNext.refl HH.out⟩
    · rw [h2] at h6
      rw [dropM_old e0 h6]
      by_cases hz : d.fuse = 0
      · obtain ⟨rfl, rfl⟩ : burns = true ∧ fuse = 0 := by
          rw [hz] at h3
          cases burns
          · simp at h3
          · exact ⟨rfl, by simpa using h3.symm⟩
        rw [if_pos hz]
        refine (rdrop_burnt h1 name e0 hi h5).mono ?_
        rintro e w' ⟨rfl, rfl⟩
        have hk : Keep (fun k => k = m) w (w.setCell ⟨m, 3, none⟩ (.bool true)) := (Keep.refl (fun k => k = m) w).setCell ⟨m, 3, none⟩ _ (.inr rfl)
        exact ⟨rfl, rfoot m v rs, ⟨v, rs, true, 0, h1.turn hk (setCell_at _ _ _ _ h1.disk) h1.fuse0 h1.fuse1, h2, h3, rfl⟩, hk.mono (fun _ _ e => .inl e), fun _ h => .inl h⟩
      · rw [if_neg hz]
        refine (rdrop_go h1 name e0 (by rw [← h3]; exact hz) hi h5).mono ?_
        rintro e w' ⟨rfl, v', fuse', q1, q2, q3, q4⟩
        refine ⟨rfl, _, ⟨v', _, burns, fuse', q1, ?_, ?_, rfl⟩, q3.mono (fun _ _ e => .inl e), ?_⟩
        · rw [rdel hi hn (by rw [h2]; exact hs.names), h2]
        · rw [h3]; exact q2
        · rintro k' (rfl | hk | ⟨r, hr, hk⟩)
          · exact .inl (.inl rfl)
          · exact .inr (q4 _ hk)
          · rcases List.mem_append.1 hr with hr | hr
            · exact .inl (.inr (.inr ⟨r, List.mem_of_mem_take hr, hk⟩))
            · exact .inl (.inr (.inr ⟨r, List.mem_of_mem_drop hr, hk⟩))
end
end Go.Proofs.Ytlnlgjifepjkbaa
