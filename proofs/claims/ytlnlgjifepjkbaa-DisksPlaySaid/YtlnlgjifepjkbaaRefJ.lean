/- The reference's disk: Add to a file that is there. -/
import Derived.Test.YtlnlgjifepjkbaaRefI
import Derived.Deep.RegionHeld3
namespace Go.Proofs.Ytlnlgjifepjkbaa
open Go.RowKit
set_option maxRecDepth 20000

section
variable {m : Nat} {v : Value} {rs : List RF} {burns : Bool} {fuse : Int} {dead : Bool} {w : World} {R : Nat → Prop} {d : D}

/-- set at a file that is there: the files' row stays where it is. -/
def RDidAt (w : World) (m : Nat) (R : Nat → Prop) (r : D × Int) (v : Value) (g i sure : Nat) (e : Ending) (w' : World) : Prop :=
  RDid w m R r e w' ∧ w'.cell? ⟨m, 0, none⟩ = some v ∧ w'.cell? ⟨g, i * 3 + 2, none⟩ = some (.int .i64 sure)

theorem rset_stays (h : RefAt w m v rs burns fuse d.dead) (h2 : rs.map RF.abs = d.fs) (h3 : d.fuse = (if burns then fuse else -1)) (hs : Sorted d.fs) {i : Nat} (hi : i < rs.length) {name : ByteArray} (hat : atM name rs = i) (hn : rs[i].name = name) (b : Value) (l : List UInt8) (hS : Sl w 1 b l.length (bv l)) (hbm : blk b = some m → l = []) (sure : Nat) (hsure : sure ≤ l.length) {g : Nat} (hg : own v = some g) (hsu : rs[i].sure = sure) :
    Calls Try.prog 42 #[.pointer (some ⟨m, 0, none⟩), .string name, b, .int .i64 sure] w (RDidAt w m (rfoot m v rs) (setM d name l sure) v g i sure) := by
  have hcell : ∀ {w' : World} {rs' : List RF} {fu : Int} {de : Bool}, RefAt w' m v rs' burns fu de → ∀ (hi' : i < rs'.length), rs'[i].sure = sure → w'.cell? ⟨m, 0, none⟩ = some v ∧ w'.cell? ⟨g, i * 3 + 2, none⟩ = some (.int .i64 sure) := by
    intro w' rs' fu de h' hi' e
    obtain ⟨g', c', hv, _, _, h5, _, h6, _⟩ := h'.at hi'
    rw [hg] at h6
    cases h6
    rw [e] at h5
    exact ⟨h'.c0, h5⟩
  have hI : IsRef w m (rfoot m v rs) d := ⟨v, rs, burns, fuse, h, h2, h3, rfl⟩
  have h6 : findM name d.fs ≠ none := by
    intro e
    rcases atM_cases name rs with ⟨h5, _⟩ | ⟨j, hj, h5, hn', h6⟩
    · rw [hat] at h5; omega
    · rw [h2, e] at h6; cases h6
  by_cases hx : 1048576 < l.length ∨ findM name d.fs = none ∧ 16 ≤ d.fs.length
  · refine (rset_limit hI name b l hS sure hx).mono ?_
    rintro e w' ⟨rfl, rfl⟩
    simp only [setM, if_pos hx]
    exact ⟨⟨rfl, RNext.refl hI⟩, hcell h hi hsu⟩
  · have hlen : d.fs.length = rs.length := by rw [← h2]; simp
    have hx' : ¬ (1048576 < l.length ∨ findM name (rs.map RF.abs) = none ∧ 16 ≤ rs.length) := by rw [h2, ← hlen]; exact hx
    by_cases hz : d.fuse = 0
    · obtain ⟨rfl, rfl⟩ : burns = true ∧ fuse = 0 := by
        rw [hz] at h3
        cases burns
        · simp at h3
        · exact ⟨rfl, by simpa using h3.symm⟩
      refine (rset_burnt h name b l hS sure hx').mono ?_
      rintro e w' ⟨rfl, rfl⟩
      simp only [setM, if_neg hx, if_pos hz]
      have hk : Keep (fun k => k = m) w (w.setCell ⟨m, 3, none⟩ (.bool true)) := (Keep.refl (fun k => k = m) w).setCell ⟨m, 3, none⟩ _ (.inr rfl)
      have hT := h.turn hk (setCell_at _ _ _ (.bool true) h.disk) h.fuse0 h.fuse1
      exact ⟨⟨rfl, rfoot m v rs, ⟨v, rs, true, 0, hT, h2, h3, rfl⟩, hk.mono (fun _ _ e => .inl e), fun _ h => .inl h⟩, hcell hT hi hsu⟩
    · have hbig : l.length ≤ 1048576 := by omega
      have hz' : (if burns then fuse else -1) ≠ 0 := by rw [← h3]; exact hz
      refine (rset_found h name b l hS hbm sure hsure hbig hz' hi hat hn).mono ?_
      rintro e w' ⟨rfl, sl, fuse', q1, q3, q4, q5⟩
      have hm : setM d name l sure = ({ fs := repF ⟨name, l, sure⟩ d.fs, fuse := burned d.fuse, dead := d.dead }, 0) := by
        unfold setM
        rw [if_neg hx, if_neg hz]
        cases hf : findM name d.fs with
        | none => exact absurd hf h6
        | some f => rfl
      rw [hm]
      refine ⟨⟨rfl, _, ⟨v, _, burns, fuse', q1, ?_, ?_, rfl⟩, q4.mono (fun k _ e => e.elim .inl (fun e => .inr (.inl e))), ?_⟩, hcell q1 (by simpa using hi) (by simp)⟩
      · rw [set_rep rs ⟨name, sl, l, sure⟩ hi hn (by rw [h2]; exact hs.names), h2]; rfl
      · rw [h3]; exact q3
      · rintro k' (rfl | hk | ⟨r, hr, hk⟩)
        · exact .inl (.inl rfl)
        · exact .inl (.inr (.inl hk))
        · rcases List.mem_or_eq_of_mem_set hr with hr | rfl
          · exact .inl (.inr (.inr ⟨r, hr, hk⟩))
          · exact .inr (q5 _ (own_blk hk))
set_option maxHeartbeats 4000000 in
theorem radd_old (h : IsRef w m R d) (hs : Sorted d.fs) (name : ByteArray) (b : Value) (l : List UInt8) (hS : Sl w 1 b l.length (bv l)) (hl : l.length ≤ 1000000000) (hz : askedE d.dead name = 0) {f : F} (hf : findM name d.fs = some f) :
    Calls Try.prog 17 #[.pointer (some ⟨m, 0, none⟩), .string name, b] w (RDid w m R (addM d name l)) := by
  have HH := Lib.hid h
  have HS := Lib.hid hs
  obtain ⟨v, rs, burns, fuse, h1, h2, h3, rfl⟩ := h
  have hA := rasked_any h1 name
  have hB := Lib.hid (rat_any h1 name)
  have h0 := h1.c0
  rw [addM_old hz hf]
  rw [hz] at hA
  have HA := Lib.hid hA
  rcases atM_cases name rs with ⟨h5, h6⟩ | ⟨i, hi, h5, hn, h6⟩
  · rw [h2, hf] at h6; cases h6
  have h5' := h5
  rw [h5'] at hB
  rw [h2, hf] at h6
  cases h6
  obtain ⟨g, cv, rfl, q0, q1, q2, q3, q4, q5, q6⟩ := h1.at hi
  have hfew := h1.few
  have hiI : (i : Int) < rs.length := by omega
  have hsz := (h1.sizes _ (List.getElem_mem hi)).2
  have hsu := (h1.sizes _ (List.getElem_mem hi)).1
  have hbo := h1.bytes _ (List.getElem_mem hi)
  obtain ⟨a, c', hv⟩ := hbo.form
  have e1 : rs[i].abs.b = rs[i].b := rfl
  have e2 : rs[i].abs.sure = rs[i].sure := rfl
  rw [e1, e2]
  rw [hv] at q1 hbo
  have HD := Lib.hid h1
  have H2 := Lib.hid h2
  have H3 := Lib.hid h3
  have HI := Lib.hid hi
  have HAT := Lib.hid h5
  have HN := Lib.hid hn
  have HG := Lib.hid q4
  generalize hsu' : rs[i].sure = su at q2 hsu ⊢
  have HSU := Lib.hid hsu'
  generalize rs[i].b = bb at q1 hbo hsz hsu ⊢
  obtain ⟨ab, cb, rfl⟩ := hS.form
  have HO := Lib.hid hbo.sl
  have HL := Lib.hid hS
  have HM := Lib.hid (lt_of_heap h1.disk)
  have hgl := Lib.hid (h1.files.lt q4)
  have HC : Hid (∀ w2 a2 c2, Mid w.drew w2 (.slice a2 (([] ++ bb) ++ l).length c2) (([] ++ bb) ++ l) → Calls Try.prog 42 #[.pointer (some ⟨m, 0, none⟩), .string name, .slice a2 (bb.length + l.length) c2, .int .i64 su] w2 (RDidAt w m (rfoot m (.slice (some ⟨g, 0, none⟩) rs.length cv) rs) (setM d name (bb ++ l) su) (.slice (some ⟨g, 0, none⟩) rs.length cv) g i su)) := by
    intro w2 a2 c2 M2
    have hll : bb.length + l.length = (([] ++ bb) ++ l).length := by simp
    rw [hll]
    have hk : Keep (fun _ => False) w w2 := ((Keep.refl (fun _ => False) w).drew).trans M2.keep
    refine (rset_stays (HD.out.keep hk (fun _ _ h => h)) H2.out H3.out HS.out HI.out HAT.out HN.out _ (([] ++ bb) ++ l) M2.own.sl (fun e => absurd (M2.blk m e) (Nat.not_le.2 HM.out)) su (by simp; omega) HG.out HSU.out).mono ?_
    rintro e w3 ⟨⟨rfl, k⟩, kc⟩
    rw [List.nil_append] at k ⊢
    exact ⟨⟨rfl, k.ofKeep hk⟩, kc⟩
  clear hA h1 h2 h3 h5 hv hn q6 q4 q3 q0 hbo hS hz hf hs e1 e2 hsu'
  go_enter Try.func17, Try.ntmps17
  go_wp2_with (first | (go_at_call 40; refine HA.out.mono ?_; rintro e w' ⟨rfl, rfl⟩) | (go_at_call 41; refine hB.out.mono ?_; rintro e w' ⟨rfl, rfl⟩))
  have HMid := Lib.hid (Mid.nil w.drew)
  go_region_law (first
    | (refine step_appB _ rfl (.tmp 34) (.tmp 35) rfl (.slice a1 bb.length c1) (.slice ab l.length cb) ([] ++ bb) l (by simp [Act.eval, Act.put]) (by simp [Act.eval, Act.put]) M1.out.own ((HL.out.keep ((Keep.refl (fun _ => False) _).drew) (fun _ _ h => h)).keep M1.out.keep (fun _ _ h => h)) (by simp; omega) ?_; intro a2 c2 w2 k1 k2 k3; have M2 := Lib.hid (M1.out.app k1 k2 k3); have h02 := M2.out.keep.cell h0 (fun h => h); have q22 := M2.out.keep.cell q2 (fun h => h); clear k1 k2 k3 M1)
    | (refine step_appB _ rfl (.const (.slice none 0 0)) (.tmp 33) rfl (.slice none 0 0) (.slice a bb.length c') [] bb rfl (by simp [Act.eval, Act.put]) (Own.nil _ _ _) (HO.out.keep ((Keep.refl (fun _ => False) _).drew) (fun _ _ h => h)) (by simp; omega) ?_; intro a1 c1 w1 k1 k2 k3; have M1 := Lib.hid (HMid.out.app k1 k2 k3); have h01 := M1.out.keep.cell h0 (fun h => h); have q21 := M1.out.keep.cell q2 (fun h => h); clear k1 k2 k3)
    | (go_simp; go_at_call 42; refine (HC.out _ _ _ M2.out).mono ?_; rintro e w3 ⟨⟨rfl, k⟩, kc⟩; have K := Lib.hid k; have h03 := kc.1; have q23 := kc.2; clear k kc))
  all_goals
    go_wp2
    go_ret
    exact ⟨rfl, K.out⟩
theorem radd_abs (h : IsRef w m R d) (hs : Sorted d.fs) (name : ByteArray) (b : Value) (l : List UInt8) (hS : Sl w 1 b l.length (bv l)) (hbm : blk b = some m → l = []) (hl : l.length ≤ 1000000000) :
    Calls Try.prog 17 #[.pointer (some ⟨m, 0, none⟩), .string name, b] w (RDid w m R (addM d name l)) := by
  by_cases hz : askedE d.dead name = 0
  · cases hf : findM name d.fs with
    | none => exact radd_new h hs name b l hS hbm hz hf
    | some f => exact radd_old h hs name b l hS hl hz hf
  · exact radd_asked h name b l hz
end
end Go.Proofs.Ytlnlgjifepjkbaa
