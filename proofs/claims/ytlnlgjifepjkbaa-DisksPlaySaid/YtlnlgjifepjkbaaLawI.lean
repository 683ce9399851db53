/- One act on both disks, any kind; Same. -/
import Derived.Test.YtlnlgjifepjkbaaLawH
namespace Go.Proofs.Ytlnlgjifepjkbaa
open Go.RowKit
set_option maxRecDepth 20000

/-- What an act makes of a disk. -/
def actM (d : D) (x : X) : D :=
  if x.kind % 8 = 2 then (sureM d x.name).1 else if x.kind % 8 = 3 then (putM d x.name x.l).1 else if x.kind % 8 = 4 then (dropM d x.name).1
  else if x.kind % 8 = 5 then fuse4 d x.n else if x.kind % 8 = 6 then liftM d x.loss else if x.kind % 8 = 7 then d else (addM d x.name x.l).1

section
variable {w : World} {bd m : Nat} {S R : Nat → Prop} {d : D} {x : X}

theorem does17_abs (hB : Both w bd m S R d) (hx : XAt w S R x) :
    Calls Try.prog 7 #[.pointer (some ⟨bd, 0, none⟩), .pointer (some ⟨m, 0, none⟩), .agg x.cells] w (DoesPost w bd m S R (actM d x)) := by
  have h0 := hx.k0
  rcases (by omega : x.kind % 8 = 0 ∨ x.kind % 8 = 1 ∨ x.kind % 8 = 2 ∨ x.kind % 8 = 3 ∨ x.kind % 8 = 4 ∨ x.kind % 8 = 5 ∨ x.kind % 8 = 6 ∨ x.kind % 8 = 7) with h | h | h | h | h | h | h | h
  · have e : actM d x = (addM d x.name x.l).1 := by simp [actM, h]
    rw [e]; exact does_add0 hB hx h
  · have e : actM d x = (addM d x.name x.l).1 := by simp [actM, h]
    rw [e]; exact does_add1 hB hx h
  · have e : actM d x = (sureM d x.name).1 := by simp [actM, h]
    rw [e]; exact does_sure hB hx h
  · have e : actM d x = (putM d x.name x.l).1 := by simp [actM, h]
    rw [e]; exact does_put hB hx h
  · have e : actM d x = (dropM d x.name).1 := by simp [actM, h]
    rw [e]; exact does_drop hB hx h
  · have e : actM d x = fuse4 d x.n := by simp [actM, h]
    rw [e]; exact does_fuse hB hx h
  · have e : actM d x = liftM d x.loss := by simp [actM, h]
    rw [e]; exact does_lift hB hx h
  · have e : actM d x = d := by simp [actM, h]
    rw [e]; exact does_read hB hx h
end
end Go.Proofs.Ytlnlgjifepjkbaa
