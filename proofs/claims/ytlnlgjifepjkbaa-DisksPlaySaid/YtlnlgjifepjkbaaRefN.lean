/- The reference's disk: Lift, walked. -/
import Derived.Test.YtlnlgjifepjkbaaRefM
namespace Go.Proofs.Ytlnlgjifepjkbaa
open Go.RowKit
set_option maxRecDepth 20000

section
variable {m : Nat} {v : Value} {rs : List RF} {burns : Bool} {fuse : Int} {dead : Bool} {w : World} {R : Nat → Prop} {d : D}

theorem take_b {a : Option Addr} {c s' : Nat} {bb tk : List UInt8} (h : Own w 5 1 (.slice a bb.length c) bb.length (bv bb)) (hs : s' ≤ bb.length) (hc : bb.length ≤ c) (hcm : c ≤ maxLen) (ht : bb.take s' = tk) (hl : tk.length = s') : Sl w 1 (.slice a s' c) tk.length (bv tk) := by
  have h1 := h.sl.take hs (by omega : s' ≤ c) hcm
  have e : (bv bb).take (s' * 1) = bv tk := by rw [← ht, Nat.mul_one]; simp [bv]
  rw [e] at h1
  rw [hl]
  exact h1

theorem rlift_close2 {loss : List Int} {W wr w2 : World} {k s' su g c : Nat} {a1 : Option Addr} {c1 : Nat} {bb tk : List UInt8} {mo : Int} (h : RefAt wr m (.slice (some ⟨g, 0, none⟩) rs.length c) rs burns fuse d.dead) (hrs : rs.map RF.abs = (liftTo d loss k).fs) (hK : Keep R W wr) (hR : ∀ k, rfoot m (.slice (some ⟨g, 0, none⟩) rs.length c) rs k → R k ∨ W.heap.size ≤ k)
    (hs : Sorted d.fs) (hk : k < rs.length) (hg : own (.slice (some ⟨g, 0, none⟩) rs.length c) = some g) (hbb : rs[k].b = bb) (htk : bb.take s' = tk) (M : Mid wr.drew w2 (.slice a1 ([] ++ tk).length c1) ([] ++ tk)) (htl : tk.length = s') (hgR : R g) (hsu : rs[k].sure = su) (hm : moreM loss k = mo) (hs' : (s' : Int) = su + min mo (bb.length - su)) :
    RLInv d loss m (.slice (some ⟨g, 0, none⟩) rs.length c) burns fuse R W (k + 1) ((w2.setCell ⟨g, k * 3 + 1, none⟩ (.slice a1 s' c1)).setCell ⟨g, k * 3 + 2, none⟩ (.int .i64 s')) := by
  have e : ([] ++ tk).length = s' := by simpa using htl
  rw [e] at M
  subst hbb
  have M' : Mid wr w2 (.slice a1 s' c1) (rs[k].b.take s') := by
    rw [htk]
    exact ⟨M.own, ((Keep.refl (fun _ => False) _).drew).trans M.keep, M.blk⟩
  have hm0 : 0 ≤ moreM loss k := by
    unfold moreM
    split <;> omega
  exact rlift_close h hrs hK hR hgR hs hk hg M' (by rw [hsu, hm]; exact hs') hm0

set_option maxHeartbeats 4000000 in
theorem rlift_abs (h : IsRef w m R d) (hs : Sorted d.fs) (v : Value) (loss : List Int) (hv : Sl w 1 v loss.length (iv loss)) (hvR : ∀ g, blk v = some g → loss ≠ [] → ¬ R g) (hb : ∀ x ∈ loss, -9223372036854775808 ≤ x ∧ x ≤ 9223372036854775807) :
    Calls Try.prog 23 #[.pointer (some ⟨m, 0, none⟩), v] w fun e w' => e = .returned (.tuple #[]) ∧ RNext w w' m R (liftM d loss) := by
  obtain ⟨al, cl, rfl⟩ := hv.form
  have HH := Lib.hid h
  obtain ⟨v, rs0, burns, fuse, h1, h2, h3, hR0⟩ := h
  have HSO := Lib.hid hs
  have HV := Lib.hid hv
  have HVR := Lib.hid hvR
  have HB := Lib.hid hb
  have hll : loss.length ≤ 9223372036854775807 := by
    obtain ⟨_, _, _, e, h1, h2, _⟩ := hv
    cases e
    unfold maxLen at h2
    omega
  have hdl : d.fs.length = rs0.length := by rw [← h2]; simp
  have hfew := h1.few
  have HR0 := Lib.hid hR0
  have H1 := Lib.hid h1
  have H2 := Lib.hid h2
  clear hv hvR hb hs h1 h2 h3 hR0
  go_enter Try.func23, Try.ntmps23
  go_wp2
  go_loopw [4] (fun i wr => ∃ k : Nat, k ≤ d.fs.length ∧ i = .int .i64 k ∧ RLInv d loss m v burns fuse R w k wr) (fun i _ => d.fs.length - (intOf i).toNat)
  case atStart =>
    refine ⟨0, Nat.zero_le _, rfl, rs0, H1.out, ?_, Keep.refl _ _, fun i hi => .inl (by rw [HR0.out]; exact hi)⟩
    have h9 : d.fs.mapIdx (fun j f => if j < 0 then liftF (moreM loss j) f else f) = d.fs := by
      apply List.ext_getElem?
      intro i
      simp
    unfold liftTo
    rw [h9]
    exact H2.out
  case round =>
    obtain ⟨k, hk, rfl, rs, hr1, hr2, hr3, hr4⟩ := hrel
    have hrl : rs.length = d.fs.length := by
      have h9 := congrArg List.length hr2
      simpa [liftTo] using h9
    by_cases hlt : k < rs.length
    · obtain ⟨g, cv, rfl, q0, q1, q2, q3, q4, q5, q6⟩ := hr1.at hlt
      have hm0 := hr1.c0
      have hsz := hr1.sizes _ (List.getElem_mem hlt)
      have hbo := hr1.bytes _ (List.getElem_mem hlt)
      obtain ⟨a, c, hsl⟩ := hbo.form
      rw [hsl] at q1 hbo
      have hgm : ¬ g = m := fun e => hr1.own_m (e ▸ q4)
      have hgm' : ¬ m = g := fun e => hgm e.symm
      have hcc : rs[k].b.length ≤ c ∧ c ≤ maxLen := by
        obtain ⟨_, _, _, e, h2, h3, _⟩ := hbo
        cases e
        exact ⟨h2, h3⟩
      obtain ⟨su, hsu⟩ : ∃ su, rs[k].sure = su := ⟨_, rfl⟩
      obtain ⟨bb, hbb⟩ : ∃ bb, rs[k].b = bb := ⟨_, rfl⟩
      rw [hsu] at q2 hsz
      rw [hbb] at hbo q1 hsz hcc
      have hcc1 := hcc.1
      have HC2 := Lib.hid hcc.2
      have hz1 := hsz.1
      have hz2 := hsz.2
      have HR1 := Lib.hid hr1
      have HR2 := Lib.hid hr2
      have HR3 := Lib.hid hr3
      have HR4 := Lib.hid hr4
      have HSU := Lib.hid hsu
      have HBB := Lib.hid hbb
      have HBO := Lib.hid hbo
      have HG := Lib.hid q4
      have HLT := Lib.hid hlt
      have hfl := hr1.few
      have hltI : (k : Int) < rs.length := by omega
      clear hr1 hr2 hr3 hr4 hsu hbb hbo q0 q4 q5 q6 hsl hcc hsz

      by_cases hlo : k < loss.length
      · have hcl : Sl wr 1 (.slice al loss.length cl) loss.length (iv loss) := HV.out.keep' HR3.out (fun g hg hne => HVR.out g hg (fun e => hne (by rw [e]; rfl)))
        obtain ⟨gl, offl, hal, hcx⟩ : ∃ gl offl, al = some ⟨gl, offl, none⟩ ∧ wr.cell? ⟨gl, offl + k, none⟩ = some (.int .i64 loss[k]) := by
          obtain ⟨_, a', c', e, _, _, hr⟩ := hcl
          cases e
          obtain ⟨gb, off, h1, h2⟩ := hr (fun e => by have h9 := congrArg List.length e; rw [iv_length, List.length_nil] at h9; omega)
          exact ⟨gb, off, h1, h2 k _ (by simp [iv, hlo])⟩
        subst hal
        obtain ⟨x, hx⟩ : ∃ x, loss[k] = x := ⟨_, rfl⟩
        have hxb := HB.out x (by rw [← hx]; exact List.getElem_mem hlo)
        rw [hx] at hcx
        have hmx : moreM loss k = max 0 x := by simp [moreM, hlo, hx]
        have HMX := Lib.hid hmx
        clear hcl hx hmx
        by_cases hx0 : 0 < x
        · have HM : Hid (moreM loss k = x) := Lib.hid (by rw [HMX.out]; omega)
          by_cases hx1 : x < (bb.length : Int) - su
          · obtain ⟨s', hs'⟩ : ∃ s' : Nat, (s' : Int) = su + x := ⟨(su + x : Int).toNat, by omega⟩
            have hsb : s' ≤ bb.length := by omega
            have HSP : Hid ((s' : Int) = su + min x (bb.length - su)) := Lib.hid (by omega)
            have HE := Lib.hid hs'
            clear hs'
            go_wp2
            rw [← HE.out]
            obtain ⟨tk, htk⟩ : ∃ tk, bb.take s' = tk := ⟨_, rfl⟩
            have htl : tk.length = s' := by rw [← htk, List.length_take]; omega
            have HTK := Lib.hid htk
            clear htk
            have b1 : (0 : Int) ≤ s' := by omega
            have b2 : (s' : Int) ≤ c := by omega
            have HMid := Lib.hid (Mid.nil wr.drew)
            go_region_law (first
              | (refine step_appB _ rfl (.const (.slice none 0 0)) (.tmp 73) rfl (.slice none 0 0) (.slice a s' c) [] tk rfl (by simp [Act.eval, Act.put]) (Own.nil _ _ _) (take_b (HBO.out.keep ((Keep.refl (fun _ => False) _).drew) (fun _ _ h => h)) hsb hcc1 HC2.out HTK.out htl) (by simp; omega) ?_; intro a1 c1 w1 k1 k2 k3; have M1 := Lib.hid (HMid.out.app k1 k2 k3); have u0 : w1.cell? ⟨m, 0, none⟩ = some (.slice (some ⟨g, 0, none⟩) rs.length cv) := M1.out.keep.cell hm0 (fun h => h); have u1 : w1.cell? ⟨g, k * 3 + 1, none⟩ = some (.slice a bb.length c) := M1.out.keep.cell q1 (fun h => h); have u2 : w1.cell? ⟨g, k * 3 + 2, none⟩ = some (.int .i64 su) := M1.out.keep.cell q2 (fun h => h); have u3 := (((HR1.out.keep ((Keep.refl (fun _ => False) _).drew) (fun _ _ h => h)).keep M1.out.keep (fun _ _ h => h)).cells HLT.out).2.2.2; clear k1 k2 k3))
            all_goals
              go_wp2
              go_roundw
              case rel => exact ⟨k + 1, by omega, by go_num, rlift_close2 HR1.out HR2.out HR3.out HR4.out HSO.out HLT.out HG.out HBB.out HTK.out M1.out htl (by rw [HR0.out]; exact .inr (.inl HG.out)) HSU.out HM.out HSP.out⟩
              case measure => simp [intOf]; omega
          · obtain ⟨s', hs'⟩ : ∃ s' : Nat, (s' : Int) = su + (bb.length - su) := ⟨bb.length, by omega⟩
            have hsb : s' ≤ bb.length := by omega
            have HSP : Hid ((s' : Int) = su + min x (bb.length - su)) := Lib.hid (by omega)
            have HE := Lib.hid hs'
            clear hs'
            go_wp2
            rw [← HE.out]
            obtain ⟨tk, htk⟩ : ∃ tk, bb.take s' = tk := ⟨_, rfl⟩
            have htl : tk.length = s' := by rw [← htk, List.length_take]; omega
            have HTK := Lib.hid htk
            clear htk
            have b1 : (0 : Int) ≤ s' := by omega
            have b2 : (s' : Int) ≤ c := by omega
            have HMid := Lib.hid (Mid.nil wr.drew)
            go_region_law (first
              | (refine step_appB _ rfl (.const (.slice none 0 0)) (.tmp 73) rfl (.slice none 0 0) (.slice a s' c) [] tk rfl (by simp [Act.eval, Act.put]) (Own.nil _ _ _) (take_b (HBO.out.keep ((Keep.refl (fun _ => False) _).drew) (fun _ _ h => h)) hsb hcc1 HC2.out HTK.out htl) (by simp; omega) ?_; intro a1 c1 w1 k1 k2 k3; have M1 := Lib.hid (HMid.out.app k1 k2 k3); have u0 : w1.cell? ⟨m, 0, none⟩ = some (.slice (some ⟨g, 0, none⟩) rs.length cv) := M1.out.keep.cell hm0 (fun h => h); have u1 : w1.cell? ⟨g, k * 3 + 1, none⟩ = some (.slice a bb.length c) := M1.out.keep.cell q1 (fun h => h); have u2 : w1.cell? ⟨g, k * 3 + 2, none⟩ = some (.int .i64 su) := M1.out.keep.cell q2 (fun h => h); have u3 := (((HR1.out.keep ((Keep.refl (fun _ => False) _).drew) (fun _ _ h => h)).keep M1.out.keep (fun _ _ h => h)).cells HLT.out).2.2.2; clear k1 k2 k3))
            all_goals
              go_wp2
              go_roundw
              case rel => exact ⟨k + 1, by omega, by go_num, rlift_close2 HR1.out HR2.out HR3.out HR4.out HSO.out HLT.out HG.out HBB.out HTK.out M1.out htl (by rw [HR0.out]; exact .inr (.inl HG.out)) HSU.out HM.out HSP.out⟩
              case measure => simp [intOf]; omega
        · have HM : Hid (moreM loss k = 0) := Lib.hid (by rw [HMX.out]; omega)
          have hsb : su ≤ bb.length := hz1
          have HSP : Hid ((su : Int) = su + min (0 : Int) (bb.length - su)) := Lib.hid (by omega)
          go_wp2
          obtain ⟨tk, htk⟩ : ∃ tk, bb.take su = tk := ⟨_, rfl⟩
          have htl : tk.length = su := by rw [← htk, List.length_take]; omega
          have HTK := Lib.hid htk
          clear htk
          have b1 : (0 : Int) ≤ su := by omega
          have b2 : (su : Int) ≤ c := by omega
          have HMid := Lib.hid (Mid.nil wr.drew)
          go_region_law (first
            | (refine step_appB _ rfl (.const (.slice none 0 0)) (.tmp 73) rfl (.slice none 0 0) (.slice a su c) [] tk rfl (by simp [Act.eval, Act.put]) (Own.nil _ _ _) (take_b (HBO.out.keep ((Keep.refl (fun _ => False) _).drew) (fun _ _ h => h)) hsb hcc1 HC2.out HTK.out htl) (by simp; omega) ?_; intro a1 c1 w1 k1 k2 k3; have M1 := Lib.hid (HMid.out.app k1 k2 k3); have u0 : w1.cell? ⟨m, 0, none⟩ = some (.slice (some ⟨g, 0, none⟩) rs.length cv) := M1.out.keep.cell hm0 (fun h => h); have u1 : w1.cell? ⟨g, k * 3 + 1, none⟩ = some (.slice a bb.length c) := M1.out.keep.cell q1 (fun h => h); have u2 : w1.cell? ⟨g, k * 3 + 2, none⟩ = some (.int .i64 su) := M1.out.keep.cell q2 (fun h => h); have u3 := (((HR1.out.keep ((Keep.refl (fun _ => False) _).drew) (fun _ _ h => h)).keep M1.out.keep (fun _ _ h => h)).cells HLT.out).2.2.2; clear k1 k2 k3))
          all_goals
            go_wp2
            go_roundw
            case rel => exact ⟨k + 1, by omega, by go_num, rlift_close2 HR1.out HR2.out HR3.out HR4.out HSO.out HLT.out HG.out HBB.out HTK.out M1.out htl (by rw [HR0.out]; exact .inr (.inl HG.out)) HSU.out HM.out HSP.out⟩
            case measure => simp [intOf]; omega
      · have hlo' : loss.length ≤ k := by omega
        have HM : Hid (moreM loss k = 0) := Lib.hid (by simp [moreM, List.getElem?_eq_none hlo'])
        obtain ⟨s', hs'e⟩ : ∃ s', su = s' := ⟨_, rfl⟩
        subst hs'e
        have hsb : su ≤ bb.length := hz1
        have HSP : Hid ((su : Int) = su + min (0 : Int) (bb.length - su)) := Lib.hid (by omega)
        clear hlo
        go_wp2
        obtain ⟨tk, htk⟩ : ∃ tk, bb.take su = tk := ⟨_, rfl⟩
        have htl : tk.length = su := by rw [← htk, List.length_take]; omega
        have HTK := Lib.hid htk
        clear htk
        have b1 : (0 : Int) ≤ su := by omega
        have b2 : (su : Int) ≤ c := by omega
        have HMid := Lib.hid (Mid.nil wr.drew)
        go_region_law (first
          | (refine step_appB _ rfl (.const (.slice none 0 0)) (.tmp 73) rfl (.slice none 0 0) (.slice a su c) [] tk rfl (by simp [Act.eval, Act.put]) (Own.nil _ _ _) (take_b (HBO.out.keep ((Keep.refl (fun _ => False) _).drew) (fun _ _ h => h)) hsb hcc1 HC2.out HTK.out htl) (by simp; omega) ?_; intro a1 c1 w1 k1 k2 k3; have M1 := Lib.hid (HMid.out.app k1 k2 k3); have u0 : w1.cell? ⟨m, 0, none⟩ = some (.slice (some ⟨g, 0, none⟩) rs.length cv) := M1.out.keep.cell hm0 (fun h => h); have u1 : w1.cell? ⟨g, k * 3 + 1, none⟩ = some (.slice a bb.length c) := M1.out.keep.cell q1 (fun h => h); have u2 : w1.cell? ⟨g, k * 3 + 2, none⟩ = some (.int .i64 su) := M1.out.keep.cell q2 (fun h => h); have u3 := (((HR1.out.keep ((Keep.refl (fun _ => False) _).drew) (fun _ _ h => h)).keep M1.out.keep (fun _ _ h => h)).cells HLT.out).2.2.2; clear k1 k2 k3))
        all_goals
          go_wp2
          go_roundw
          case rel => exact ⟨k + 1, by omega, by go_num, rlift_close2 HR1.out HR2.out HR3.out HR4.out HSO.out HLT.out HG.out HBB.out HTK.out M1.out htl (by rw [HR0.out]; exact .inr (.inl HG.out)) HSU.out HM.out HSP.out⟩
          case measure => simp [intOf]; omega
    · have hkn : k = rs.length := by omega
      obtain ⟨av, cv, hvv⟩ := hr1.files.form
      subst hvv
      have c0 := hr1.c0
      have c1 := hr1.c1
      have c2 := hr1.c2
      have c3 := hr1.c3
      have f1 := free_of hr1.disk 1
      have f2 := free_of hr1.disk 2
      have f3 := free_of hr1.disk 3
      have HR1 := Lib.hid hr1
      have HR2 := Lib.hid hr2
      have HR3 := Lib.hid hr3
      have HR4 := Lib.hid hr4
      have HKN := Lib.hid hkn
      clear hr1 hr2 hr3 hr4
      go_wp2
      go_end0
      refine ⟨rfl, ?_⟩
      have h1 := HR1.out
      have hkk : Keep (fun k => k = m) wr (((wr.setCell ⟨m, 3, none⟩ (.bool false)).setCell ⟨m, 1, none⟩ (.bool false)).setCell ⟨m, 2, none⟩ (.int .i64 0)) := (((Keep.refl (fun k => k = m) wr).setCell ⟨m, 3, none⟩ _ (.inr rfl)).setCell ⟨m, 1, none⟩ _ (.inr rfl)).setCell ⟨m, 2, none⟩ _ (.inr rfl)
      have h2 := h1.turn (burns' := false) (fuse' := 0) (dead' := false) hkk (setCell_at _ _ _ _ (setCell_at _ _ _ _ (setCell_at _ _ _ _ h1.disk))) (by simp) (by omega)
      refine ⟨rfoot m _ rs, ⟨_, rs, false, 0, ?_, ?_, ?_, rfl⟩, HR3.out.trans' hkk (fun _ _ h => h) (fun i hi e => (HR4.out i (.inl e)).resolve_right (by omega)), HR4.out⟩
      · rw [← liftTo_all]; exact h2
      · rw [← liftTo_all, ← hrl, ← HKN.out]; exact HR2.out
      · rw [← liftTo_all]; rfl
end
end Go.Proofs.Ytlnlgjifepjkbaa
