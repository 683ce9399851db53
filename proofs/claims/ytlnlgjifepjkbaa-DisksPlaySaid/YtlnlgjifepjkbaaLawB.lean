/- The laws' own helpers: TwinBytes, LeftBytes. -/
import Derived.Test.YtlnlgjifepjkbaaLawA
namespace Go.Proofs.Ytlnlgjifepjkbaa
open Go.RowKit
set_option maxRecDepth 20000

section
variable {w : World}

/-- A twin of l: l, and room behind it that has the mark. -/
def Twin (w : World) (v : Value) (l : List UInt8) : Prop := ∃ a c, v = .slice a l.length c ∧ Own w 5 1 (.slice a (l ++ [195, 195]).length c) (l ++ [195, 195]).length (bv (l ++ [195, 195]))
/-- A twin is made, in new memory. -/
def TwinPost (w : World) (l : List UInt8) (e : Ending) (w' : World) : Prop := ∃ t, e = .returned t ∧ Twin w' t l ∧ Keep (fun _ => False) w w' ∧ ∀ g, blk t = some g → w.heap.size ≤ g

theorem twinB_abs (v : Value) (l : List UInt8) (hv : Sl w 1 v l.length (bv l)) (hl : l.length ≤ 1000000) :
    Calls Try.prog 39 #[v, .int .u8 195] w (TwinPost w l) := by
  obtain ⟨a, c, rfl⟩ := hv.form
  have HV := Lib.hid hv
  clear hv
  obtain ⟨C, hC, hmk⟩ : ∃ C : Array Value, C.size = l.length + 2 ∧ (Instr.makeSlice 32 (.int .i64 0) (.int .i64 ((l.length : Int) + 2))).run Try.prog w = .ok (.slice (some ⟨w.heap.size, 0, none⟩) 0 (l.length + 2)) (w.alloc (.cells C 5)) := by
    obtain ⟨i, hi, hz0, hz1, hz2⟩ := info_parts info_u8
    have h := Go.run_make (P := Try.prog) w 32 5 i _ Try.underlying32 hi hz0 .i64 .i64 0 ((l.length : Int) + 2) (by omega) (by omega) (by rw [hz2]; omega) (by omega)
    refine ⟨_, ?_, h⟩
    rw [size_madeCells, hz1]
    omega
  have HO : Hid (Own (w.alloc (.cells C 5)) 5 1 (.slice (some ⟨w.heap.size, 0, none⟩) 0 (l.length + 2)) ([] : List UInt8).length (bv [])) := Lib.hid ⟨by simp, _, _, rfl, by simp, by unfold maxLen; omega, .inr ⟨w.heap.size, C, rfl, alloc_new w _, by omega, by simp [bv]⟩⟩
  have HK : Hid (Keep (fun _ => False) w (w.alloc (.cells C 5))) := (Keep.refl _ _).alloc _
  have HM : Hid (Mid w (w.alloc (.cells C 5)) (.slice (some ⟨w.heap.size, 0, none⟩) 0 (l.length + 2)) []) := Lib.hid ⟨HO.out, HK.out, fun g hg => by simp [blk] at hg; omega⟩
  generalize w.alloc (.cells C 5) = W1 at *
  go_enter Try.func39, Try.ntmps39
  go_wp2_with (at_builtin; go_loud (first
    | (refine wpList_appB _ rfl (.tmp 10) (.tmp 11) rfl (.slice (some ⟨w.heap.size, 0, none⟩) 0 (l.length + 2)) (.slice a l.length c) [] l rfl rfl HO.out (HV.out.keep HK.out (fun _ _ h => h)) (by simp; omega) ?_; intro a' c' w2 j1 j2 j3; have M1 := Lib.hid (HM.out.app j1 j2 j3); clear j1 j2 j3; rw [List.nil_append] at M1 ⊢)
    | (refine wpList_appB _ rfl (.tmp 13) (.tmp 16) rfl (.slice a' l.length c') (.slice (some ⟨w2.heap.size, 0, none⟩) 2 2) l [195, 195] rfl rfl (M1.out.own.keep ((Keep.refl (fun _ => False) _).alloc _) (fun _ _ h => h)) (Sl.ofBlock (alloc_new _ _) rfl (by decide) (by unfold maxLen; omega)) (by simp; omega) ?_; intro a2 c2 w3 j1 j2 j3; have hc2 : l.length + 2 ≤ c2 := (by obtain ⟨_, _, _, e, q1, _⟩ := j1; cases e; simpa using q1); have M2 := Lib.hid (Mid.app ⟨M1.out.own.keep ((Keep.refl (fun _ => False) _).alloc _) (fun _ _ h => h), M1.out.keep.alloc _, M1.out.blk⟩ j1 j2 j3); clear j1 j2 j3)))
  go_ret
  exact ⟨_, rfl, ⟨_, _, rfl, M2.out.own⟩, M2.out.keep, fun g hg => M2.out.blk g (by
    cases a2 with
    | none => simp [blk] at hg
    | some ad => simpa [blk] using hg)⟩
end
end Go.Proofs.Ytlnlgjifepjkbaa
