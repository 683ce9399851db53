/- The program's own instances of the laws that the walk takes by itself. -/
import Derived.Test.YtlnlgjifepjkbaaMapS
import Derived.Test.YtlnlgjifepjkbaaProg
namespace Go.Proofs.Ytlnlgjifepjkbaa
open Go.RowKit

@[go_sem] theorem i_neq_map (m : Option Nat) (w : World) : (binOp .neq 44 (.map m) (.map none)).run Try.prog w = .ok (.bool (!m.isNone)) w :=
  run_neq_map_nil w _ _ _ m Try.underlying44
theorem zero_file (w : World) : (zeroValue 59).run Try.prog w = .ok (.pointer none) w := by kernel_rfl
theorem i_lookup {w : World} {m : Nat} {es : Array MapEntry} {clock : Nat} {L : List (ByteArray × Value)} (hb : w.heap[m]? = some (.map es clock)) (h : MapS es clock L) (s : ByteArray) :
    (Instr.lookup 44 (.map (some m)) (.string s) false).run Try.prog w = .ok ((assocS s L).getD (.pointer none)) w :=
  run_lookup Try.underlying44 Try.underlying9 (zero_file w) hb h s
theorem toList_inj {a b : ByteArray} : a.toList = b.toList ↔ a = b := by
  constructor
  · intro h
    have := (ByteArray.toList_eq a).symm.trans (h.trans (ByteArray.toList_eq b))
    obtain ⟨x⟩ := a
    obtain ⟨y⟩ := b
    simp at this
    rw [this]
  · rintro rfl; rfl
theorem toList_beq (a b : ByteArray) : (a.toList == b.toList) = decide (a = b) := by
  rw [Bool.eq_iff_iff, beq_iff_eq, toList_inj, decide_eq_true_iff]
theorem empty_iff (s : ByteArray) : s = { data := #[] } ↔ s.size = 0 := by
  constructor
  · rintro rfl; rfl
  · intro h
    obtain ⟨d⟩ := s
    have : d.size = 0 := h
    simp at this
    rw [this]
theorem toList_nil : (ByteArray.mk #[]).toList = [] := by rw [ByteArray.toList_eq]
theorem toList_empty {s : ByteArray} (h : s.size = 0) : s.toList = [] := by rw [(empty_iff s).2 h, toList_nil]
theorem toList_ne {s : ByteArray} (h : ¬ s.size = 0) : ¬ s.toList = [] := fun e => h (by
  have : s.toList = (ByteArray.mk #[]).toList := by rw [toList_nil]; exact e
  rw [toList_inj.1 this]
  rfl)
theorem isEmpty_no {s : ByteArray} (h : ¬ s.size = 0) : s.toList.isEmpty = false := by
  have := toList_ne h
  cases hs : s.toList with
  | nil => exact absurd hs this
  | cons _ _ => rfl
end Go.Proofs.Ytlnlgjifepjkbaa
