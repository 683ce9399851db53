/- The disk as plain data: what each call makes of it. No program stands here. -/
import Derived.Test.YtlnlgjifepjkbaaBase
namespace Go.Proofs.Ytlnlgjifepjkbaa

structure F where
  name : ByteArray
  b : List UInt8
  sure : Nat

structure D where
  fs : List F
  fuse : Int
  dead : Bool

def lt (a b : ByteArray) : Prop := a.toList < b.toList
instance (a b : ByteArray) : Decidable (lt a b) := inferInstanceAs (Decidable (a.toList < b.toList))
theorem lt_irrefl (a : ByteArray) : ¬ lt a a := List.lt_irrefl _
theorem lt_trans {a b c : ByteArray} (h : lt a b) (k : lt b c) : lt a c := List.lt_trans h k
theorem lt_or {a b : ByteArray} (h : a ≠ b) : lt a b ∨ lt b a := by
  by_cases h1 : a.toList < b.toList
  · exact .inl h1
  · by_cases h2 : b.toList < a.toList
    · exact .inr h2
    · exfalso
      have h3 : b.toList ≤ a.toList := List.not_lt.1 h1
      have h4 : a.toList ≤ b.toList := List.not_lt.1 h2
      have := List.le_antisymm h4 h3
      apply h
      have e := (ByteArray.toList_eq a).symm.trans (this.trans (ByteArray.toList_eq b))
      obtain ⟨x⟩ := a
      obtain ⟨y⟩ := b
      simp at e
      rw [e]

def Sorted (L : List F) : Prop := L.Pairwise fun f g => lt f.name g.name
theorem Sorted.names {L : List F} (h : Sorted L) : (L.map (·.name)).Nodup := by
  rw [List.nodup_iff_pairwise_ne, List.pairwise_map]
  refine List.Pairwise.imp (S := fun (a b : F) => a.name ≠ b.name) ?_ h
  intro a b hab e
  have e' : a.name = b.name := e
  rw [e'] at hab
  exact lt_irrefl _ hab

def findM (name : ByteArray) (L : List F) : Option F := L.find? fun f => decide (f.name = name)
theorem findM_some {name : ByteArray} {L : List F} {f : F} (h : findM name L = some f) : f ∈ L ∧ f.name = name :=
  ⟨List.mem_of_find?_eq_some h, by simpa using List.find?_some h⟩
theorem findM_none {name : ByteArray} {L : List F} (h : findM name L = none) : ∀ f ∈ L, f.name ≠ name := fun f hf => by
  have := List.find?_eq_none.1 h f hf
  simpa using this
theorem findM_iff {name : ByteArray} {L : List F} (hn : (L.map (·.name)).Nodup) (f : F) : findM name L = some f ↔ f ∈ L ∧ f.name = name := by
  constructor
  · exact findM_some
  · rintro ⟨h1, h2⟩
    induction L with
    | nil => cases h1
    | cons g r ih =>
      simp only [List.map_cons, List.nodup_cons] at hn
      cases h1 with
      | head => simp [findM, h2]
      | tail _ h1 =>
        have : g.name ≠ name := fun e => hn.1 (by rw [e, ← h2]; exact List.mem_map.2 ⟨f, h1, rfl⟩)
        have h3 := ih hn.2 h1
        simp only [findM, List.find?_cons] at h3 ⊢
        simp [this, h3]
theorem findM_perm {name : ByteArray} {L M : List F} (hp : L.Perm M) (hn : (M.map (·.name)).Nodup) : findM name L = findM name M := by
  have hn' : (L.map (·.name)).Nodup := (hp.map _).nodup_iff.2 hn
  cases h : findM name M with
  | none =>
    apply List.find?_eq_none.2
    intro f hf
    simpa using findM_none h f (hp.mem_iff.1 hf)
  | some f =>
    have := findM_some h
    exact (findM_iff hn' f).2 ⟨hp.mem_iff.2 this.1, this.2⟩

def insF (f : F) (L : List F) : List F := L.takeWhile (fun g => decide (lt g.name f.name)) ++ f :: L.dropWhile (fun g => decide (lt g.name f.name))
def repF (f : F) (L : List F) : List F := L.map fun g => if g.name = f.name then f else g
def delF (name : ByteArray) (L : List F) : List F := L.filter fun g => g.name ≠ name

theorem insF_perm (f : F) (L : List F) : (insF f L).Perm (L ++ [f]) := by
  unfold insF
  have : (L.takeWhile (fun g => decide (lt g.name f.name)) ++ f :: L.dropWhile (fun g => decide (lt g.name f.name))).Perm (f :: (L.takeWhile (fun g => decide (lt g.name f.name)) ++ L.dropWhile (fun g => decide (lt g.name f.name)))) := List.perm_middle
  rw [List.takeWhile_append_dropWhile] at this
  exact this.trans (List.perm_append_singleton f L).symm
theorem insF_sorted {f : F} : ∀ {L : List F}, Sorted L → (∀ g ∈ L, g.name ≠ f.name) → Sorted (insF f L)
  | [], _, _ => by simp [insF, Sorted]
  | g :: r, h, hn => by
    have h' := List.pairwise_cons.1 h
    by_cases hg : lt g.name f.name
    · have ih := insF_sorted (f := f) (L := r) h'.2 (fun x hx => hn x (.tail _ hx))
      have e : insF f (g :: r) = g :: insF f r := by simp [insF, hg]
      rw [e]
      refine List.pairwise_cons.2 ⟨fun x hx => ?_, ih⟩
      have hx' := (insF_perm f r).mem_iff.1 hx
      rcases List.mem_append.1 hx' with hx' | hx'
      · exact h'.1 x hx'
      · simp at hx'
        subst hx'
        exact hg
    · have e : insF f (g :: r) = f :: g :: r := by simp [insF, hg]
      rw [e]
      have hfg : lt f.name g.name := (lt_or (hn g (.head _))).resolve_left hg
      refine List.pairwise_cons.2 ⟨fun x hx => ?_, h⟩
      cases hx with
      | head => exact hfg
      | tail _ hx => exact lt_trans hfg (h'.1 x hx)
theorem repF_name (f : F) (L : List F) : (repF f L).map (·.name) = L.map (·.name) := by
  unfold repF
  rw [List.map_map]
  apply List.map_congr_left
  intro g _
  simp only [Function.comp]
  split
  · rename_i h; exact h.symm
  · rfl
theorem repF_sorted {f : F} {L : List F} (h : Sorted L) : Sorted (repF f L) := by
  have h1 : (L.map (·.name)).Pairwise lt := by rw [List.pairwise_map]; exact h
  rw [← repF_name f L] at h1
  rw [List.pairwise_map] at h1
  exact h1
theorem delF_sorted {name : ByteArray} {L : List F} (h : Sorted L) : Sorted (delF name L) := h.filter _

/-- What is wrong ahead of all else. -/
def askedE (dead : Bool) (name : ByteArray) : Int := if dead then 17 else if name.size = 0 ∨ 16 < name.size then 1 else 0
theorem asked_split (dead : Bool) (name : ByteArray) : askedE dead name = 17 ∨ askedE dead name = 1 ∨ askedE dead name = 0 := by
  unfold askedE
  split
  · exact .inl rfl
  · split
    · exact .inr (.inl rfl)
    · exact .inr (.inr rfl)
def burned (fuse : Int) : Int := if 0 < fuse then fuse - 1 else fuse

def aheadM (d : D) (name : ByteArray) (size : Int) (made : Bool) : Int :=
  if askedE d.dead name ≠ 0 then askedE d.dead name
  else if findM name d.fs = none ∧ made = false then 7
  else if 1048576 < size ∨ findM name d.fs = none ∧ 16 ≤ d.fs.length then 3
  else 0

/-- What a doing makes of the files. -/
def turnM (L : List F) (name : ByteArray) (how : F → Option F) : List F :=
  match findM name L with
  | some f => match how f with
    | some f' => repF f' L
    | none => delF name L
  | none => match how ⟨name, [], 0⟩ with
    | some f' => insF f' L
    | none => L
def doM (d : D) (name : ByteArray) (size : Int) (made : Bool) (how : F → Option F) : D × Int :=
  if aheadM d name size made ≠ 0 then (d, aheadM d name size made)
  else if d.fuse = 0 then ({ d with dead := true }, 17)
  else ({ fs := turnM d.fs name how, fuse := burned d.fuse, dead := d.dead }, 0)

/-- The reference's way: a file's bytes are set. -/
def setM (d : D) (name : ByteArray) (l : List UInt8) (sure : Nat) : D × Int :=
  if 1048576 < l.length ∨ findM name d.fs = none ∧ 16 ≤ d.fs.length then (d, 3)
  else if d.fuse = 0 then ({ d with dead := true }, 17)
  else ({ fs := (match findM name d.fs with | some _ => repF ⟨name, l, sure⟩ d.fs | none => insF ⟨name, l, sure⟩ d.fs), fuse := burned d.fuse, dead := d.dead }, 0)

def sizeM (name : ByteArray) (L : List F) : Nat := match findM name L with
  | some f => f.b.length
  | none => 0
def addM (d : D) (name : ByteArray) (l : List UInt8) : D × Int := doM d name (sizeM name d.fs + l.length) true fun f => some { f with b := f.b ++ l }
def sureM (d : D) (name : ByteArray) : D × Int := doM d name 0 false fun f => some { f with sure := f.b.length }
def putM (d : D) (name : ByteArray) (l : List UInt8) : D × Int := doM d name l.length true fun f => some { f with b := l, sure := l.length }
def dropM (d : D) (name : ByteArray) : D × Int := doM d name 0 false fun _ => none
def readM (d : D) (name : ByteArray) : List UInt8 × Int :=
  if askedE d.dead name ≠ 0 then ([], askedE d.dead name) else match findM name d.fs with
  | some f => (f.b, 0)
  | none => ([], 7)
def fuseM (d : D) (n : Int) : D := { d with fuse := max 0 n }
def moreM (loss : List Int) (i : Nat) : Int := match loss[i]? with
  | some n => max 0 n
  | none => 0
def liftF (more : Int) (f : F) : F := { f with sure := f.sure + (min more (f.b.length - f.sure : Int)).toNat, b := f.b.take (f.sure + (min more (f.b.length - f.sure : Int)).toNat) }
def liftM (d : D) (loss : List Int) : D := { fs := d.fs.mapIdx fun i f => liftF (moreM loss i) f, fuse := -1, dead := false }

def F.ok (f : F) : Prop := f.sure ≤ f.b.length ∧ f.b.length ≤ 1048576
structure D.ok (d : D) : Prop where
  sorted : Sorted d.fs
  file : ∀ f ∈ d.fs, f.ok
  few : d.fs.length ≤ 16
  fuse0 : -1 ≤ d.fuse
  fuse1 : d.fuse ≤ 9223372036854775807
def D.new : D := ⟨[], -1, false⟩
end Go.Proofs.Ytlnlgjifepjkbaa
