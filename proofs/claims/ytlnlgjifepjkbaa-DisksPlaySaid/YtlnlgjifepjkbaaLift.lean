/- The program's disk: Lift. -/
import Derived.Test.YtlnlgjifepjkbaaNames
import Derived.Deep.RegionHeld3
import Derived.StillTailTactics
namespace Go.Proofs.Ytlnlgjifepjkbaa
open Go.RowKit
open Go.ChangeMaps (setBlock)
set_option maxRecDepth 20000

def iv (l : List Int) : List Value := l.map fun x => .int .i64 x
@[simp] theorem iv_length (l : List Int) : (iv l).length = l.length := by simp [iv]

/-- .. of an empty list nothing is asked. -/
theorem Sl.keep' {w w' : World} {sz : Nat} {v : Value} {n : Nat} {xs : List Value} {S : Nat → Prop} (h : Sl w sz v n xs) (k : Keep S w w') (hn : ∀ g, blk v = some g → xs ≠ [] → ¬ S g) : Sl w' sz v n xs := by
  obtain ⟨hl, a, c, rfl, hnc, hm, hr⟩ := h
  refine ⟨hl, a, c, rfl, hnc, hm, fun hne => ?_⟩
  obtain ⟨b, off, rfl, hc⟩ := hr hne
  exact ⟨b, off, rfl, fun j u hu => k.cell (hc j u hu) (hn b rfl hne)⟩

section
variable {bd bm : Nat} {fs : List PF} {fuse : Int} {dead : Bool} {w : World}

/-- The first i files of a disk are lifted. -/
def liftTo (d : D) (loss : List Int) (i : Nat) : D := { d with fs := d.fs.mapIdx fun j f => if j < i then liftF (moreM loss j) f else f }

/-- What holds at the head of each round. -/
def LInv (d : D) (loss : List Int) (bd : Nat) (S : Nat → Prop) (W : World) (i : Nat) (wr : World) : Prop :=
  ∃ S', IsDisk wr bd S' (liftTo d loss i) ∧ Keep S W wr ∧ ∀ k, S' k → S k

theorem Own.take {e sz : Nat} {a : Option Addr} {n c : Nat} {xs : List Value} (h : Own w e sz (.slice a n c) n xs) {k : Nat} (hk : k ≤ n) : Own w e sz (.slice a k k) k (xs.take (k * sz)) := by
  obtain ⟨hl, a', c', hv, hnc, hm, hr⟩ := h
  cases hv
  have hks : k * sz ≤ n * sz := Nat.mul_le_mul_right _ hk
  refine ⟨by rw [List.length_take, hl]; omega, a, k, rfl, Nat.le_refl _, by omega, ?_⟩
  rcases hr with rfl | ⟨g, cur, rfl, hg, hs, ht⟩
  · exact .inl (by omega)
  · refine .inr ⟨g, cur, rfl, hg, Nat.le_trans (Nat.le_trans hks (Nat.mul_le_mul_right _ hnc)) hs, ?_⟩
    rw [← ht, List.take_take]
    congr 1
    omega
theorem liftTo_step {d : D} {loss : List Int} {k : Nat} (hs : Sorted d.fs) (hk : k < d.fs.length) : (liftTo d loss (k + 1)).fs = repF (liftF (moreM loss k) d.fs[k]) (liftTo d loss k).fs := by
  apply List.ext_getElem?
  intro j
  by_cases hj : j < d.fs.length
  · simp only [liftTo, repF, List.getElem?_map, List.getElem?_mapIdx, List.getElem?_eq_getElem hj, Option.map_some]
    by_cases hjk : j = k
    · subst hjk
      simp [liftF]
    · have hne : d.fs[j].name ≠ d.fs[k].name := fun e => hjk (by
        have hn := hs.names
        have h1 : j < (d.fs.map (·.name)).length := by simpa using hj
        have h2 : k < (d.fs.map (·.name)).length := by simpa using hk
        exact (List.getElem_inj (i := j) (j := k) (h₀ := h1) (h₁ := h2) hn).1 (by simpa using e))
      by_cases hlt : j < k
      · have hlt' : j < k + 1 := by omega
        have : ¬ (liftF (moreM loss j) d.fs[j]).name = (liftF (moreM loss k) d.fs[k]).name := hne
        simp [hlt, hlt', this]
      · have hlt' : ¬ j < k + 1 := by omega
        have : ¬ d.fs[j].name = (liftF (moreM loss k) d.fs[k]).name := hne
        simp [hlt, hlt', this]
  · simp only [liftTo, repF, List.getElem?_map, List.getElem?_mapIdx, List.getElem?_eq_none (Nat.le_of_not_lt hj), Option.map_none]

/-- One file is lifted. -/
theorem lift_close {S : Nat → Prop} {d : D} {loss : List Int} {k s' : Nat} {m : Int} {W wr : World} {f : PF} {a : Option Addr} {c : Nat} (hk : k < d.fs.length) (h1 : DiskAt wr bd bm fs d.fuse d.dead) (hp : (fs.map PF.abs).Perm (liftTo d loss k).fs) (hs : Sorted (liftTo d loss k).fs) (hds : Sorted d.fs)
    (hf : f ∈ fs) (hfa : f.abs = d.fs[k]) (hv : f.sl = .slice a f.b.length c) (hm : moreM loss k = m) (hm0 : 0 ≤ m) (hs' : (s' : Int) = f.sure + min m (f.b.length - f.sure)) (hkp : Keep S W wr) (hsu : ∀ i, foot bd bm fs i → S i) :
    LInv d loss bd S W (k + 1) ((wr.setCell ⟨f.blk, 1, none⟩ (.int .i64 s')).drew.setCell ⟨f.blk, 0, none⟩ (.slice a s' s')).drew := by
  show LInv d loss bd S W (k + 1) ((wr.setCell ⟨f.blk, 1, none⟩ (.int .i64 s')).drew.drew.setCell ⟨f.blk, 0, none⟩ (.slice a s' s'))
  have hF := h1.file f hf
  have hsl : s' ≤ f.b.length := by have := hF.sure; omega
  have hkk : Keep (fun k => k = f.blk) wr ((wr.setCell ⟨f.blk, 1, none⟩ (.int .i64 s')).drew.drew.setCell ⟨f.blk, 0, none⟩ (.slice a s' s')) := ((((Keep.refl (fun k => k = f.blk) wr).setCell ⟨f.blk, 1, none⟩ (.int .i64 s') (.inr rfl)).drew).drew).setCell ⟨f.blk, 0, none⟩ (.slice a s' s') (.inr rfl)
  have hown : ∀ g, own (.slice a s' s') = some g → own f.sl = some g := by
    intro g hg
    rw [hv]
    obtain ⟨_, _, _, e, hnc, _, _⟩ := hv ▸ hF.bytes
    cases e
    cases a with
    | none => simp [own] at hg
    | some ad =>
      simp only [own] at hg ⊢
      split at hg
      · cases hg
      · rw [if_neg (by omega)]
        exact hg
  have hb := (hv ▸ hF.bytes : Own wr 5 1 (.slice a f.b.length c) f.b.length (bv f.b)).take hsl
  have ht : Turned wr ((wr.setCell ⟨f.blk, 1, none⟩ (.int .i64 s')).drew.drew.setCell ⟨f.blk, 0, none⟩ (.slice a s' s')) f { f with sl := .slice a s' s', b := f.b.take s', sure := s' } := by
    refine ⟨⟨setCell_at _ _ _ _ (setCell_at wr _ _ _ hF.cells), ?_, ?_, ?_⟩, rfl, rfl, fun g hg => .inl (hown g hg), hkk.mono fun _ _ h => .inl h⟩
    · have := hb.keep hkk (fun g hg e => hF.apart (e ▸ hown g hg))
      simp only [List.length_take, Nat.min_eq_left hsl]
      rw [Nat.mul_one] at this
      have e : bv (f.b.take s') = (bv f.b).take s' := by simp [bv, List.map_take]
      rw [e]
      exact this
    · simp; omega
    · simp; have := hF.most; omega
  have hd2 := turned_disk h1 hf ht
  have habs : PF.abs { f with sl := .slice a s' s', b := f.b.take s', sure := s' } = liftF (moreM loss k) d.fs[k] := by
    rw [← hfa, hm]
    have e : f.sure + (min m (f.b.length - f.sure : Int)).toNat = s' := by have := hF.sure; omega
    simp only [PF.abs, liftF, e]
  refine ⟨_, ⟨bm, _, hd2, ?_, ?_, rfl⟩, hkp.trans' hkk (fun _ _ h => h) (fun i _ e => hsu i (.inr (.inr ⟨f, hf, .inl e⟩))), ?_⟩
  · have h5 := map_rep f { f with sl := .slice a s' s', b := f.b.take s', sure := s' } rfl fs
    rw [habs] at h5
    rw [h5, liftTo_step (loss := loss) hds hk]
    exact hp.map _
  · rw [liftTo_step hds hk]
    exact repF_sorted hs
  · rintro i (e | e | ⟨g, hg, e⟩)
    · exact hsu i (.inl e)
    · exact hsu i (.inr (.inl e))
    · obtain ⟨g0, hg0, rfl⟩ := List.mem_map.1 hg
      split at e
      · rcases e with e | e
        · exact hsu i (.inr (.inr ⟨f, hf, .inl e⟩))
        · exact hsu i (.inr (.inr ⟨f, hf, .inr (hown _ e)⟩))
      · exact hsu i (.inr (.inr ⟨g0, hg0, e⟩))
theorem liftTo_all (d : D) (loss : List Int) : { fs := (liftTo d loss d.fs.length).fs, fuse := -1, dead := false } = liftM d loss := by
  have h9 : d.fs.mapIdx (fun j f => if j < d.fs.length then liftF (moreM loss j) f else f) = d.fs.mapIdx (fun j f => liftF (moreM loss j) f) := by
    apply List.ext_getElem?
    intro i
    by_cases hi : i < d.fs.length
    · simp [hi]
    · simp only [List.getElem?_mapIdx, List.getElem?_eq_none (Nat.le_of_not_lt hi), Option.map_none]
  unfold liftTo liftM
  rw [h9]

set_option maxHeartbeats 1000000 in
theorem lift_abs {S : Nat → Prop} {d : D} (h : IsDisk w bd S d) (v : Value) (loss : List Int) (hv : Sl w 1 v loss.length (iv loss)) (hvS : ∀ g, blk v = some g → loss ≠ [] → ¬ S g) (hb : ∀ x ∈ loss, -9223372036854775808 ≤ x ∧ x ≤ 9223372036854775807) :
    Calls Try.prog 11 #[.pointer (some ⟨bd, 0, none⟩), v] w fun e w' => e = .returned (.tuple #[]) ∧ Next w w' bd S (liftM d loss) := by
  obtain ⟨al, cl, rfl⟩ := hv.form
  obtain ⟨bm, h0⟩ : ∃ bm, w.cell? ⟨bd, 0, none⟩ = some (.map (some bm)) := by
    obtain ⟨bm, fs, h1, _⟩ := h
    exact ⟨bm, h1.c0⟩
  have hok := h.ok
  have hfew := hok.few
  have HO := Lib.hid hok
  have HH := Lib.hid h
  have HN := Lib.hid (names_abs h)
  have HV := Lib.hid hv
  have HVS := Lib.hid hvS
  have HB := Lib.hid hb
  have hll : loss.length ≤ 9223372036854775807 := by
    obtain ⟨_, _, _, e, h1, h2, _⟩ := hv
    cases e
    unfold maxLen at h2
    omega
  clear h hv hvS hb hok
  go_enter Try.func11, Try.ntmps11
  go_wp2_with (first | (go_at_call 34; refine (there_some _ _ _ h0).mono ?_; rintro e w' ⟨rfl, rfl⟩) | (go_at_call 29; refine HN.out.mono ?_; rintro e W ⟨an, rfl, k1, k2, k3⟩; simp only [List.length_map] at k1 k2 k3 ⊢; have K1 := Lib.hid k1; have K2 := Lib.hid k2; have K3 := Lib.hid k3; clear k1 k2 k3))
  go_loopw [14] (fun i wr => ∃ k : Nat, k ≤ d.fs.length ∧ i = .int .i64 k ∧ LInv d loss bd S W k wr) (fun i _ => d.fs.length - (intOf i).toNat)
  case atStart =>
    refine ⟨0, Nat.zero_le _, rfl, S, ?_, Keep.refl _ _, fun _ h => h⟩
    have : liftTo d loss 0 = d := by
      have h9 : d.fs.mapIdx (fun j f => if j < 0 then liftF (moreM loss j) f else f) = d.fs := by
        apply List.ext_getElem?
        intro i
        simp
      unfold liftTo
      rw [h9]
    rw [this]
    exact HH.out.keep K2.out (fun _ _ h => h)
  case round =>
    obtain ⟨k, hk, rfl, S', hI, hkp, hsub⟩ := hrel
    by_cases hlt : k < d.fs.length
    · have hnm : Sl wr 1 (.slice an d.fs.length d.fs.length) d.fs.length (strv (d.fs.map (·.name))) := K1.out.sl.keep hkp (fun g hg hS => by have h9 := K3.out g hg; have h8 := HH.out.lt hS; omega)
      obtain ⟨gb, off, han, hcn⟩ : ∃ gb off, an = some ⟨gb, off, none⟩ ∧ wr.cell? ⟨gb, off + k, none⟩ = some (.string d.fs[k].name) := by
        obtain ⟨_, a', c', e, _, _, hr⟩ := hnm
        cases e
        obtain ⟨gb, off, h1, h2⟩ := hr (fun e => by have h9 := congrArg List.length e; rw [strv_length, List.length_map, List.length_nil] at h9; omega)
        exact ⟨gb, off, h1, h2 k _ (by simp [strv, hlt])⟩
      subst han
      obtain ⟨bm', fs, h1, hp, hs, rfl⟩ := hI
      have hfm : findM d.fs[k].name (liftTo d loss k).fs = some d.fs[k] := (findM_iff hs.names _).2 ⟨by
        refine List.mem_of_getElem? (i := k) ?_
        simp [liftTo, hlt], rfl⟩
      obtain ⟨f, hf, hfa⟩ : ∃ f, findF d.fs[k].name fs = some f ∧ f.abs = d.fs[k] := by
        rw [find_d hp hs] at hfm
        cases hf : findF d.fs[k].name fs with
        | none => rw [hf] at hfm; cases hfm
        | some f => rw [hf] at hfm; exact ⟨f, rfl, by simpa using hfm⟩
      have hff := findF_some hf
      have hF := h1.file f hff.1
      have hl := look_some h1 hf
      have c0 := h1.c0
      obtain ⟨a, c, hv⟩ := hF.bytes.form
      have hcc : f.b.length ≤ c ∧ c ≤ maxLen := by
        have hb := hF.bytes
        rw [hv] at hb
        obtain ⟨_, _, _, e, h2, h3, _⟩ := hb
        cases e
        exact ⟨h2, h3⟩
      have f0 : wr.cell? ⟨f.blk, 0, none⟩ = some (.slice a f.b.length c) := by rw [cell_of hF.cells, ← hv]; rfl
      have f1 : wr.cell? ⟨f.blk, 1, none⟩ = some (.int .i64 f.sure) := by rw [cell_of hF.cells]; rfl
      have f2 := free_of hF.cells 0
      have f3 := free_of hF.cells 1
      have g1 := hF.sure
      have g2 := hF.most
      unfold maxFile at g2
      generalize hnmk : d.fs[k].name = nmk at *
      have H1 := Lib.hid h1
      have HP := Lib.hid hp
      have HS := Lib.hid hs
      have HF := Lib.hid hff
      have HA := Lib.hid hfa
      have HC := Lib.hid hcc.2
      have hc1 := hcc.1
      have HKP := Lib.hid hkp
      have HSU := Lib.hid hsub
      have HVV := Lib.hid hv
      have HNM := Lib.hid hnmk
      clear h1 hp hs hff hF hv hcc hkp hsub hnm hfm hf hfa hnmk
      by_cases hlo : k < loss.length
      · have hcl : Sl wr 1 (.slice al loss.length cl) loss.length (iv loss) := (HV.out.keep K2.out (fun _ _ h => h)).keep' HKP.out (fun g hg hne => HVS.out g hg (fun e => hne (by rw [e]; rfl)))
        obtain ⟨gl, offl, hal, hcx⟩ : ∃ gl offl, al = some ⟨gl, offl, none⟩ ∧ wr.cell? ⟨gl, offl + k, none⟩ = some (.int .i64 loss[k]) := by
          obtain ⟨_, a', c', e, _, _, hr⟩ := hcl
          cases e
          obtain ⟨gb, off, h1, h2⟩ := hr (fun e => by have h9 := congrArg List.length e; rw [iv_length, List.length_nil] at h9; omega)
          exact ⟨gb, off, h1, h2 k _ (by simp [iv, hlo])⟩
        subst hal
        obtain ⟨x, hx⟩ : ∃ x, loss[k] = x := ⟨_, rfl⟩
        have hxb := HB.out x (by rw [← hx]; exact List.getElem_mem hlo)
        rw [hx] at hcx
        have HX := Lib.hid hx
        clear hcl hx
        have hm : moreM loss k = max 0 x := by simp [moreM, hlo, HX.out]
        have HM := Lib.hid hm
        obtain ⟨s', hs'⟩ : ∃ s' : Nat, (s' : Int) = f.sure + min (max 0 x) (f.b.length - f.sure) := ⟨(f.sure + min (max 0 x) (f.b.length - f.sure) : Int).toNat, by omega⟩
        have HS' := Lib.hid hs'
        have hsl : s' ≤ f.b.length := by omega
        clear hm hs'
        go_wp2
        go_still_tail 23, (by kernel_rfl)
        change wpList _ _ _ _ _ wr.drew
        go_wp2
        rw [← HS'.out]
        have q0 : (wr.setCell ⟨f.blk, 1, none⟩ (.int .i64 s')).drew.cell? ⟨f.blk, 0, none⟩ = some (.slice a f.b.length c) := (World.cell?_setCell_other _ _ _ _ (by simp)).trans f0
        have q1 : (wr.setCell ⟨f.blk, 1, none⟩ (.int .i64 s')).drew.cell? ⟨f.blk, 1, none⟩ = some (.int .i64 s') := World.cell?_setCell_same _ _ _ f1
        have q2 : (wr.setCell ⟨f.blk, 1, none⟩ (.int .i64 s')).drew.frozen? ⟨f.blk, 0, none⟩ = false := by simp [f2]
        have hsc : s' ≤ c := by omega
        generalize hW2 : (wr.setCell ⟨f.blk, 1, none⟩ (.int .i64 s')).drew = W2 at *
        have HW2 := Lib.hid hW2
        clear hW2
        go_still_tail 20, (by kernel_rfl)
        change wpList _ _ _ _ _ W2.drew
        go_wp2
        go_roundw
        case rel => exact ⟨k + 1, by omega, by go_num, HW2.out ▸ lift_close hlt H1.out HP.out HS.out HO.out.sorted HF.out.1 HA.out HVV.out HM.out (by omega) HS'.out HKP.out HSU.out⟩
        case measure => simp [intOf]; omega
      · have hm : moreM loss k = 0 := by simp [moreM, List.getElem?_eq_none (Nat.le_of_not_lt hlo)]
        have HM := Lib.hid hm
        have hlo' : loss.length ≤ k := by omega
        obtain ⟨s', hs'⟩ : ∃ s' : Nat, (s' : Int) = f.sure + min (0 : Int) (f.b.length - f.sure) := ⟨(f.sure + min (0 : Int) (f.b.length - f.sure) : Int).toNat, by omega⟩
        have HS' := Lib.hid hs'
        have hsl : s' ≤ f.b.length := by omega
        clear hm hs' hlo
        go_wp2
        go_still_tail 23, (by kernel_rfl)
        change wpList _ _ _ _ _ wr.drew
        go_wp2
        rw [← HS'.out]
        have q0 : (wr.setCell ⟨f.blk, 1, none⟩ (.int .i64 s')).drew.cell? ⟨f.blk, 0, none⟩ = some (.slice a f.b.length c) := (World.cell?_setCell_other _ _ _ _ (by simp)).trans f0
        have q1 : (wr.setCell ⟨f.blk, 1, none⟩ (.int .i64 s')).drew.cell? ⟨f.blk, 1, none⟩ = some (.int .i64 s') := World.cell?_setCell_same _ _ _ f1
        have q2 : (wr.setCell ⟨f.blk, 1, none⟩ (.int .i64 s')).drew.frozen? ⟨f.blk, 0, none⟩ = false := by simp [f2]
        have hsc : s' ≤ c := by omega
        generalize hW2 : (wr.setCell ⟨f.blk, 1, none⟩ (.int .i64 s')).drew = W2 at *
        have HW2 := Lib.hid hW2
        clear hW2
        go_still_tail 20, (by kernel_rfl)
        change wpList _ _ _ _ _ W2.drew
        go_wp2
        go_roundw
        case rel => exact ⟨k + 1, by omega, by go_num, HW2.out ▸ lift_close hlt H1.out HP.out HS.out HO.out.sorted HF.out.1 HA.out HVV.out HM.out (by omega) HS'.out HKP.out HSU.out⟩
        case measure => simp [intOf]; omega
    · have hkn : k = d.fs.length := by omega
      subst hkn
      obtain ⟨bm', fs, h1, hp, hs, rfl⟩ := hI
      have c1 := h1.c1
      have c2 := h1.c2
      have f1 := free_of h1.disk 1
      have f2 := free_of h1.disk 2
      have H1 := Lib.hid h1
      have HP := Lib.hid hp
      have HS := Lib.hid hs
      have HKP := Lib.hid hkp
      have HSU := Lib.hid hsub
      clear h1 hp hs hkp hsub
      go_wp2
      go_end0
      refine ⟨rfl, ?_⟩
      have h1 := H1.out
      have hkk : Keep (fun k => k = bd) wr ((wr.setCell ⟨bd, 2, none⟩ (.bool false)).setCell ⟨bd, 1, none⟩ (.int .i64 (-1))) := ((Keep.refl (fun k => k = bd) wr).setCell ⟨bd, 2, none⟩ _ (.inr rfl)).setCell ⟨bd, 1, none⟩ _ (.inr rfl)
      have h2 := h1.turn (fuse' := -1) (dead' := false) hkk (setCell_at _ _ _ _ (setCell_at _ _ _ _ h1.disk)) (by omega) (by omega)
      refine ⟨foot bd bm' fs, ⟨bm', fs, ?_, ?_, ?_, rfl⟩, ((K2.out.mono (T := S) (fun _ _ h => h.elim)).trans HKP.out).trans' hkk (fun _ _ h => h) (fun i _ e => HSU.out i (.inl e)), fun i hi => .inl (HSU.out i hi)⟩
      · rw [← liftTo_all]; exact h2
      · rw [← liftTo_all]; exact HP.out
      · rw [← liftTo_all]; exact HS.out
end
end Go.Proofs.Ytlnlgjifepjkbaa
