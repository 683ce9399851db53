/- The program's disk holds plain data; what each doing makes of it. -/
import Derived.Test.YtlnlgjifepjkbaaDiskC
namespace Go.Proofs.Ytlnlgjifepjkbaa
open Go.RowKit
open Go.ChangeMaps (setBlock)
set_option maxRecDepth 20000

def PF.abs (f : PF) : F := ⟨f.name, f.b, f.sure⟩

/-- In w the disk at block bd, whose blocks are S, holds d. -/
def IsDisk (w : World) (bd : Nat) (S : Nat → Prop) (d : D) : Prop := ∃ bm fs, DiskAt w bd bm fs d.fuse d.dead ∧ (fs.map PF.abs).Perm d.fs ∧ Sorted d.fs ∧ S = foot bd bm fs
/-- Behind a call: the disk holds d'; nothing but its own blocks, and new ones, has turned. -/
def Next (w w' : World) (bd : Nat) (S : Nat → Prop) (d' : D) : Prop := ∃ S', IsDisk w' bd S' d' ∧ Keep S w w' ∧ ∀ k, S' k → S k ∨ w.heap.size ≤ k

section
variable {bd bm : Nat} {fs : List PF} {fuse : Int} {dead : Bool} {w : World} {S : Nat → Prop} {d : D}

theorem DiskAt.foot_lt (h : DiskAt w bd bm fs fuse dead) {k : Nat} (hk : foot bd bm fs k) : k < w.heap.size := by
  rcases hk with rfl | rfl | ⟨f, hf, rfl | hk⟩
  · exact lt_of_heap h.disk
  · obtain ⟨es, clock, hm, _⟩ := h.map
    exact lt_of_heap hm
  · exact lt_of_heap (h.file f hf).cells
  · exact (h.file f hf).bytes.lt hk
theorem IsDisk.lt (h : IsDisk w bd S d) {k : Nat} (hk : S k) : k < w.heap.size := by
  obtain ⟨bm, fs, h1, _, _, rfl⟩ := h
  exact h1.foot_lt hk
theorem IsDisk.keep {w' : World} {T : Nat → Prop} (h : IsDisk w bd S d) (k : Keep T w w') (hT : ∀ i, S i → ¬ T i) : IsDisk w' bd S d := by
  obtain ⟨bm, fs, h1, h2, h3, rfl⟩ := h
  exact ⟨bm, fs, h1.keep k hT, h2, h3, rfl⟩
theorem IsDisk.ok (h : IsDisk w bd S d) : d.ok := by
  obtain ⟨bm, fs, h1, h2, h3, rfl⟩ := h
  refine ⟨h3, fun f hf => ?_, ?_, h1.fuse0, h1.fuse1⟩
  · obtain ⟨g, hg, rfl⟩ := List.mem_map.1 (h2.mem_iff.2 hf)
    exact ⟨(h1.file g hg).sure, (h1.file g hg).most⟩
  · rw [← h2.length_eq]
    simpa using h1.few
theorem Next.refl (h : IsDisk w bd S d) : Next w w bd S d := ⟨S, h, Keep.refl _ _, fun _ h => .inl h⟩

theorem findF_abs (name : ByteArray) : ∀ (fs : List PF), findM name (fs.map PF.abs) = (findF name fs).map PF.abs
  | [] => rfl
  | f :: r => by
    have ih := findF_abs name r
    by_cases h : f.name = name
    · simp [findM, findF, h, PF.abs]
    · simp only [findM, findF] at ih
      have h' : ¬ f.abs.name = name := h
      rw [List.map_cons, findM, findF, List.find?_cons, List.find?_cons, decide_eq_false h', decide_eq_false h]
      exact ih
theorem find_d (hp : (fs.map PF.abs).Perm d.fs) (hs : Sorted d.fs) (name : ByteArray) : findM name d.fs = (findF name fs).map PF.abs := by
  rw [← findF_abs]
  exact (findM_perm hp hs.names).symm
theorem ahead_d (hp : (fs.map PF.abs).Perm d.fs) (hs : Sorted d.fs) (name : ByteArray) (size : Int) (made : Bool) : aheadM d name size made = ahead fs d.dead name size made := by
  have hl : d.fs.length = fs.length := by rw [← hp.length_eq]; simp
  have hn : findM name d.fs = none ↔ findF name fs = none := by rw [find_d hp hs]; simp
  unfold aheadM ahead
  simp only [hn, hl]

/-- One file is turned. -/
theorem turned_disk {w1 w2 : World} {f f' : PF} (h : DiskAt w1 bd bm fs fuse dead) (hf : f ∈ fs) (t : Turned w1 w2 f f') :
    DiskAt w2 bd bm (fs.map fun g => if g.name = f.name then f' else g) fuse dead := by
  have hname : ∀ g ∈ fs, g.name = f.name → g = f := by
    intro g hg e
    by_cases hgf : g = f
    · exact hgf
    · exfalso
      have : ∀ (l : List PF), l.Pairwise Apart → g ∈ l → f ∈ l → False := by
        intro l
        induction l with
        | nil => intro _ h; cases h
        | cons x r ih =>
          intro hp h1 h2
          have hp' := List.pairwise_cons.1 hp
          cases h1 with
          | head =>
            cases h2 with
            | head => exact hgf rfl
            | tail _ h2 => exact (hp'.1 f h2).1 e
          | tail _ h1 =>
            cases h2 with
            | head => exact (hp'.1 g h1).1 e.symm
            | tail _ h2 => exact ih hp'.2 h1 h2
      exact this fs h.sep hg hf
  have hsep : ∀ g ∈ fs, g.name ≠ f.name → Apart g f := by
    intro g hg e
    have : ∀ (l : List PF), l.Pairwise Apart → g ∈ l → f ∈ l → Apart g f := by
      intro l
      induction l with
      | nil => intro _ h; cases h
      | cons x r ih =>
        intro hp h1 h2
        have hp' := List.pairwise_cons.1 hp
        cases h1 with
        | head =>
          cases h2 with
          | head => exact absurd rfl e
          | tail _ h2 => exact hp'.1 f h2
        | tail _ h1 =>
          cases h2 with
          | head => exact (hp'.1 g h1).symm
          | tail _ h2 => exact ih hp'.2 h1 h2
    exact this fs h.sep hg hf
  obtain ⟨es, clock, hm, hM⟩ := h.map
  refine ⟨t.keep.obj h.disk ?_, ⟨es, clock, t.keep.obj hm ?_, ?_⟩, ?_, ?_, by simpa using h.few, h.fuse0, h.fuse1⟩
  · rintro (e | e)
    · exact h.blk_bd hf e.symm
    · exact h.own_bd hf e
  · rintro (e | e)
    · exact h.blk_bm hf e.symm
    · exact h.own_bm hf e
  · rw [List.map_map]
    have : fs.map (ent ∘ fun g => if g.name = f.name then f' else g) = fs.map ent := by
      apply List.map_congr_left
      intro g hg
      simp only [Function.comp]
      split
      · rename_i e
        rw [hname g hg e]
        simp [ent, t.name, t.blk]
      · rfl
    rw [this]
    exact hM
  · intro g hg
    obtain ⟨g0, hg0, rfl⟩ := List.mem_map.1 hg
    split
    · exact t.file
    · rename_i e
      have ha := hsep g0 hg0 e
      refine (h.file g0 hg0).keep t.keep ?_ ?_
      · rintro (e1 | e1)
        · exact ha.2.1 e1
        · exact h.own_blk hf hg0 e1
      · rintro k hk (e1 | e1)
        · exact h.own_blk hg0 hf (e1 ▸ hk)
        · exact ha.2.2 k hk e1
  · rw [List.pairwise_map]
    refine List.Pairwise.imp_of_mem ?_ h.sep
    intro a b ha hb hab
    by_cases e1 : a.name = f.name
    · have := hname a ha e1
      subst this
      have e2 : ¬ b.name = a.name := fun e => hab.1 e.symm
      rw [if_pos rfl, if_neg e2]
      refine ⟨by rw [t.name]; exact hab.1, by rw [t.blk]; exact hab.2.1, fun k hk hk' => ?_⟩
      rcases t.own k hk with h1 | h1
      · exact hab.2.2 k h1 hk'
      · have := (h.file b hb).bytes.lt hk'
        omega
    · by_cases e2 : b.name = f.name
      · have := hname b hb e2
        subst this
        rw [if_neg e1, if_pos rfl]
        refine ⟨by rw [t.name]; exact hab.1, by rw [t.blk]; exact hab.2.1, fun k hk hk' => ?_⟩
        rcases t.own k hk' with h1 | h1
        · exact hab.2.2 k hk h1
        · have := (h.file a ha).bytes.lt hk
          omega
      · rw [if_neg e1, if_neg e2]
        exact hab

theorem map_rep (f f' : PF) (hn : f'.name = f.name) (fs : List PF) : (fs.map fun g => if g.name = f.name then f' else g).map PF.abs = repF f'.abs (fs.map PF.abs) := by
  unfold repF
  rw [List.map_map, List.map_map]
  apply List.map_congr_left
  intro g _
  simp only [Function.comp, PF.abs, hn]
  split <;> simp [hn]

/-- A doing whose way with a file is 'how'. -/
theorem does_abs (h : IsDisk w bd S d) {fn : FuncId} {cap : Array Value} (hcf : Enters fn) (name : ByteArray) (size : Int) (made : Bool) (how : F → Option F)
    (hhow : ∀ w1 f, FileAt w1 f → f.name = name → Keep S w w1 → (findM name d.fs = some f.abs ∨ findM name d.fs = none ∧ f.abs = ⟨name, [], 0⟩) → size ≤ 1048576 →
      Calls Try.prog fn (#[.pointer (some ⟨f.blk, 0, none⟩)] ++ cap) w1 fun e w2 => e = .returned (.tuple #[]) ∧ ∃ f', Turned w1 w2 f f' ∧ how f.abs = some f'.abs) :
    Calls Try.prog 30 #[.pointer (some ⟨bd, 0, none⟩), .string name, .int .i64 size, .bool made, .func (.func fn) #[] cap] w fun e w' => e = .returned (.int .i64 (doM d name size made how).2) ∧ Next w w' bd S (doM d name size made how).1 := by
  have HH := h
  obtain ⟨bm, fs, h1, hp, hs, rfl⟩ := h
  have hah := ahead_d hp hs name size made
  by_cases ha : ahead fs d.dead name size made = 0
  · have hs1 := (ahead_zero ha).2.1
    by_cases hfu : d.fuse = 0
    · have hm : doM d name size made how = ({ d with dead := true }, 17) := by simp [doM, hah, ha, hfu]
      rw [hm]
      have h1' : DiskAt w bd bm fs 0 d.dead := hfu ▸ h1
      refine (does_dead h1' name size made _ ha).mono ?_
      rintro e w' ⟨rfl, rfl⟩
      have hk : Keep (fun k => k = bd) w (w.setCell ⟨bd, 2, none⟩ (.bool true)) := (Keep.refl _ _).setCell _ _ (.inr rfl)
      refine ⟨rfl, foot bd bm fs, ⟨bm, fs, ?_, hp, hs, rfl⟩, hk.mono (fun k _ e => .inl e), fun _ h => .inl h⟩
      have := h1'.turn hk (setCell_at _ _ _ _ h1'.disk) h1'.fuse0 h1'.fuse1
      rw [hfu]
      exact this
    · have hm : doM d name size made how = ({ fs := turnM d.fs name how, fuse := burned d.fuse, dead := d.dead }, 0) := by simp [doM, hah, ha, hfu]
      rw [hm]
      cases hf : findF name fs with
      | some f =>
        have hfd : findM name d.fs = some f.abs := by rw [find_d hp hs, hf]; rfl
        have hff := findF_some hf
        refine does_found h1 hcf ha hfu hf (R := fun w' => Next w w' bd (foot bd bm fs) { fs := turnM d.fs name how, fuse := burned d.fuse, dead := d.dead }) ?_
        intro w1 k1 k2
        refine (hhow w1 f (k1.file f hff.1) hff.2 (k2.mono (fun k _ e => .inl e)) (.inl hfd) hs1).mono ?_
        rintro e w2 ⟨rfl, f', ht, hh⟩
        refine ⟨rfl, foot bd bm (fs.map fun g => if g.name = f.name then f' else g), ⟨bm, _, turned_disk k1 hff.1 ht, ?_, ?_, rfl⟩, ?_, ?_⟩
        · rw [map_rep f f' ht.name]
          simp only [turnM, hfd, hh]
          exact hp.map _
        · simp only [turnM, hfd, hh]
          exact repF_sorted hs
        · refine k2.trans' ht.keep (fun k _ e => .inl e) (fun k _ e => ?_)
          rcases e with e | e
          · exact .inr (.inr ⟨f, hff.1, .inl e⟩)
          · exact .inr (.inr ⟨f, hff.1, .inr e⟩)
        · rintro k (e | e | ⟨g, hg, e⟩)
          · exact .inl (.inl e)
          · exact .inl (.inr (.inl e))
          · obtain ⟨g0, hg0, rfl⟩ := List.mem_map.1 hg
            split at e
            · rcases e with e | e
              · exact .inl (.inr (.inr ⟨f, hff.1, .inl (e.trans ht.blk)⟩))
              · rcases ht.own k e with h3 | h3
                · exact .inl (.inr (.inr ⟨f, hff.1, .inr h3⟩))
                · exact .inr (Nat.le_trans k2.size h3)
            · exact .inl (.inr (.inr ⟨g0, hg0, e⟩))
      | none =>
        have hfd : findM name d.fs = none := by rw [find_d hp hs, hf]; rfl
        refine does_new h1 hcf ha hfu hf (R := fun w' => Next w w' bd (foot bd bm fs) { fs := turnM d.fs name how, fuse := burned d.fuse, dead := d.dead }) ?_
        intro w1 nb hnb k1 k2
        have hmem : newF name nb ∈ fs ++ [newF name nb] := by simp
        refine (hhow w1 (newF name nb) (k1.file _ hmem) rfl (k2.mono (fun k _ e => e.elim .inl (fun e => .inr (.inl e)))) (.inr ⟨hfd, rfl⟩) hs1).mono ?_
        rintro e w2 ⟨rfl, f', ht, hh⟩
        have hne : ∀ g ∈ fs, g.name ≠ name := fun g hg e => by
          have := List.find?_eq_none.1 hf g hg
          simp at this
          exact this e
        have hlist : ((fs ++ [newF name nb]).map fun g => if g.name = (newF name nb).name then f' else g) = fs ++ [f'] := by
          rw [List.map_append]
          congr 1
          · conv => rhs; rw [← List.map_id fs]
            apply List.map_congr_left
            intro g hg
            exact if_neg (hne g hg)
          · simp
        have hd2 := turned_disk k1 hmem ht
        rw [hlist] at hd2
        have htm : turnM d.fs name how = insF f'.abs d.fs := by
          have : how ⟨name, [], 0⟩ = some f'.abs := hh
          simp only [turnM, hfd, this]
        refine ⟨rfl, foot bd bm (fs ++ [f']), ⟨bm, _, hd2, ?_, ?_, rfl⟩, ?_, ?_⟩
        · rw [htm, List.map_append]
          exact (hp.append_right _).trans (insF_perm _ _).symm
        · rw [htm]
          exact insF_sorted hs (fun g hg => by rw [show f'.abs.name = name from ht.name]; exact findM_none hfd g hg)
        · refine k2.trans' ht.keep (fun k _ e => e.elim .inl (fun e => .inr (.inl e))) (fun k hk e => ?_)
          rcases e with e | e
          · have e' : k = nb := e
            omega
          · simp [newF, own] at e
        · rintro k (e | e | ⟨g, hg, e⟩)
          · exact .inl (.inl e)
          · exact .inl (.inr (.inl e))
          · rcases List.mem_append.1 hg with hg | hg
            · exact .inl (.inr (.inr ⟨g, hg, e⟩))
            · simp at hg
              subst hg
              rcases e with e | e
              · have e' : k = nb := e.trans ht.blk
                exact .inr (by omega)
              · rcases ht.own k e with h3 | h3
                · simp [newF, own] at h3
                · exact .inr (Nat.le_trans k2.size h3)
  · have hm : doM d name size made how = (d, ahead fs d.dead name size made) := by simp [doM, hah, ha]
    rw [hm]
    refine (does_ahead h1 name size made _ ha).mono ?_
    rintro e w' ⟨rfl, rfl⟩
    exact ⟨rfl, Next.refl HH⟩
end
end Go.Proofs.Ytlnlgjifepjkbaa
