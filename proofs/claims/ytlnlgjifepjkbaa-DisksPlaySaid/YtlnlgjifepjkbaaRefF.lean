/- The reference's disk: set, on the model. -/
import Derived.Test.YtlnlgjifepjkbaaRefE
namespace Go.Proofs.Ytlnlgjifepjkbaa
open Go.RowKit
set_option maxRecDepth 20000

section
variable {m : Nat} {v : Value} {rs : List RF} {burns : Bool} {fuse : Int} {dead : Bool} {w : World} {R : Nat → Prop} {d : D}

theorem IsRef.m_mem (h : IsRef w m R d) : R m := by
  obtain ⟨v, rs, burns, fuse, h1, h2, h3, rfl⟩ := h
  exact .inl rfl

theorem rset_abs (h : IsRef w m R d) (hs : Sorted d.fs) (name : ByteArray) (b : Value) (l : List UInt8) (hS : Sl w 1 b l.length (bv l)) (hbm : blk b = some m → l = []) (sure : Nat) (hsure : sure ≤ l.length) :
    Calls Try.prog 42 #[.pointer (some ⟨m, 0, none⟩), .string name, b, .int .i64 sure] w (RDid w m R (setM d name l sure)) := by
  by_cases hx : 1048576 < l.length ∨ findM name d.fs = none ∧ 16 ≤ d.fs.length
  · refine (rset_limit h name b l hS sure hx).mono ?_
    rintro e w' ⟨rfl, rfl⟩
    simp only [setM, if_pos hx]
    exact ⟨rfl, RNext.refl h⟩
  · obtain ⟨v, rs, burns, fuse, h1, h2, h3, rfl⟩ := h
    have hlen : d.fs.length = rs.length := by rw [← h2]; simp
    have hx' : ¬ (1048576 < l.length ∨ findM name (rs.map RF.abs) = none ∧ 16 ≤ rs.length) := by rw [h2, ← hlen]; exact hx
    by_cases hz : d.fuse = 0
    · obtain ⟨rfl, rfl⟩ : burns = true ∧ fuse = 0 := by
        rw [hz] at h3
        cases burns
        · simp at h3
        · exact ⟨rfl, by simpa using h3.symm⟩
      refine (rset_burnt h1 name b l hS sure hx').mono ?_
      rintro e w' ⟨rfl, rfl⟩
      simp only [setM, if_neg hx, if_pos hz]
      have hk : Keep (fun k => k = m) w (w.setCell ⟨m, 3, none⟩ (.bool true)) := (Keep.refl (fun k => k = m) w).setCell ⟨m, 3, none⟩ _ (.inr rfl)
      exact ⟨rfl, rfoot m v rs, ⟨v, rs, true, 0, h1.turn hk (setCell_at _ _ _ _ h1.disk) h1.fuse0 h1.fuse1, h2, h3, rfl⟩, hk.mono (fun _ _ e => .inl e), fun _ h => .inl h⟩
    · have hbig : l.length ≤ 1048576 := by omega
      have hz' : (if burns then fuse else -1) ≠ 0 := by rw [← h3]; exact hz
      rcases atM_cases name rs with ⟨h5, h6⟩ | ⟨i, hi, h5, hn, h6⟩
      · rw [h2] at h6
        have h16 : rs.length < 16 := by
          rcases Nat.lt_or_ge rs.length 16 with h | h
          · exact h
          · exact absurd (.inr ⟨h6, by omega⟩) hx
        refine (rset_new h1 name b l hS hbm sure hsure hbig hz' h5 h16).mono ?_
        rintro e w' ⟨rfl, sl, k, v', fuse', q1, q2, q3, q4, q5, q6⟩
        have hm : setM d name l sure = ({ fs := insF ⟨name, l, sure⟩ d.fs, fuse := burned d.fuse, dead := d.dead }, 0) := by
          unfold setM
          rw [if_neg hx, if_neg hz]
          simp only [h6]
        rw [hm]
        refine ⟨rfl, _, ⟨v', _, burns, fuse', q1, ?_, ?_, rfl⟩, q4.mono (fun _ _ e => .inl e), ?_⟩
        · rw [q2.ins ⟨name, sl, l, sure⟩ rfl, h2]; rfl
        · rw [h3]; exact q3
        · rintro k' (rfl | hk | ⟨r, hr, hk⟩)
          · exact .inl (.inl rfl)
          · exact .inr (q6 _ hk)
          · simp only [List.mem_append, List.mem_singleton] at hr
            rcases hr with (hr | rfl) | hr
            · exact .inl (.inr (.inr ⟨r, List.mem_of_mem_take hr, hk⟩))
            · exact .inr (q5 _ hk)
            · exact .inl (.inr (.inr ⟨r, List.mem_of_mem_drop hr, hk⟩))
      · rw [h2] at h6
        refine (rset_found h1 name b l hS hbm sure hsure hbig hz' hi h5 hn).mono ?_
        rintro e w' ⟨rfl, sl, fuse', q1, q3, q4, q5⟩
        have hm : setM d name l sure = ({ fs := repF ⟨name, l, sure⟩ d.fs, fuse := burned d.fuse, dead := d.dead }, 0) := by
          unfold setM
          rw [if_neg hx, if_neg hz]
          simp only [h6]
        rw [hm]
        refine ⟨rfl, _, ⟨v, _, burns, fuse', q1, ?_, ?_, rfl⟩, q4.mono (fun k _ e => e.elim .inl (fun e => .inr (.inl e))), ?_⟩
        · rw [set_rep rs ⟨name, sl, l, sure⟩ hi hn (by rw [h2]; exact hs.names), h2]; rfl
        · rw [h3]; exact q3
        · rintro k' (rfl | hk | ⟨r, hr, hk⟩)
          · exact .inl (.inl rfl)
          · exact .inl (.inr (.inl hk))
          · rcases List.mem_or_eq_of_mem_set hr with hr | rfl
            · exact .inl (.inr (.inr ⟨r, hr, hk⟩))
            · exact .inr (q5 _ (own_blk hk))

theorem doM_setM {d : D} {name : ByteArray} {size : Int} {made : Bool} {how : F → Option F} {l : List UInt8} {sure : Nat} (ha : askedE d.dead name = 0) (hm : findM name d.fs = none → made = true) (hsz : 1048576 < size ↔ 1048576 < l.length)
    (hsome : ∀ f, findM name d.fs = some f → how f = some ⟨name, l, sure⟩) (hnone : findM name d.fs = none → how ⟨name, [], 0⟩ = some ⟨name, l, sure⟩) : doM d name size made how = setM d name l sure := by
  have h1 : ¬ (findM name d.fs = none ∧ made = false) := fun h => by rw [hm h.1] at h; cases h.2
  by_cases hx : 1048576 < l.length ∨ findM name d.fs = none ∧ 16 ≤ d.fs.length
  · have hx' : 1048576 < size ∨ findM name d.fs = none ∧ 16 ≤ d.fs.length := hx.imp hsz.2 id
    have e : aheadM d name size made = 3 := by simp only [aheadM, ha, ne_eq, not_true, if_false, if_neg h1, if_pos hx']
    unfold doM setM
    rw [e, if_pos hx]
    rfl
  · have hx' : ¬ (1048576 < size ∨ findM name d.fs = none ∧ 16 ≤ d.fs.length) := fun h => hx (h.imp hsz.1 id)
    have e : aheadM d name size made = 0 := by simp only [aheadM, ha, ne_eq, not_true, if_false, if_neg h1, if_neg hx']
    unfold doM setM
    rw [e, if_neg hx, if_neg (by simp)]
    split
    · rfl
    · unfold turnM
      cases hf : findM name d.fs with
      | none => simp only [hnone hf]
      | some f => simp only [hsome f hf]
theorem doM_asked {d : D} {name : ByteArray} {size : Int} {made : Bool} {how : F → Option F} (ha : askedE d.dead name ≠ 0) : doM d name size made how = (d, askedE d.dead name) := by
  have e : aheadM d name size made = askedE d.dead name := by unfold aheadM; rw [if_pos ha]
  unfold doM
  rw [e, if_pos ha]
theorem doM_none {d : D} {name : ByteArray} {size : Int} {how : F → Option F} (ha : askedE d.dead name = 0) (hf : findM name d.fs = none) : doM d name size false how = (d, 7) := by
  have e : aheadM d name size false = 7 := by simp only [aheadM, ha, ne_eq, not_true, if_false, hf, and_self, if_true]
  unfold doM
  rw [e]
  rfl
theorem putM_set {d : D} {name : ByteArray} {l : List UInt8} (ha : askedE d.dead name = 0) : putM d name l = setM d name l l.length :=
  doM_setM ha (fun _ => rfl) (by omega) (fun f hf => by rw [← (findM_some hf).2]) (fun _ => rfl)
theorem addM_new {d : D} {name : ByteArray} {l : List UInt8} (ha : askedE d.dead name = 0) (hf : findM name d.fs = none) : addM d name l = setM d name l 0 :=
  doM_setM ha (fun _ => rfl) (by simp only [sizeM, hf]; omega) (fun f h => by rw [hf] at h; cases h) (fun _ => rfl)
theorem addM_old {d : D} {name : ByteArray} {l : List UInt8} {f : F} (ha : askedE d.dead name = 0) (hf : findM name d.fs = some f) : addM d name l = setM d name (f.b ++ l) f.sure :=
  doM_setM ha (fun _ => rfl) (by simp only [sizeM, hf, List.length_append]; omega) (fun f' h => by rw [hf] at h; cases h; rw [← (findM_some hf).2]) (fun h => by rw [hf] at h; cases h)
theorem sureM_old {d : D} {name : ByteArray} {f : F} (ha : askedE d.dead name = 0) (hf : findM name d.fs = some f) (ho : f.b.length ≤ 1048576) : sureM d name = setM d name f.b f.b.length :=
  doM_setM ha (fun h => by rw [hf] at h; cases h) (by omega) (fun f' h => by rw [hf] at h; cases h; rw [← (findM_some hf).2]) (fun h => by rw [hf] at h; cases h)
end
end Go.Proofs.Ytlnlgjifepjkbaa
