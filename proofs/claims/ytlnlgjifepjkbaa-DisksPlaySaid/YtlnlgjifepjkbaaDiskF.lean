/- The program's disk: New, Fuse, Dead as plain data has them. -/
import Derived.Test.YtlnlgjifepjkbaaRefN
namespace Go.Proofs.Ytlnlgjifepjkbaa
open Go.RowKit
set_option maxRecDepth 20000

section
variable {bd bm : Nat} {fs : List PF} {fuse : Int} {dead : Bool} {w : World} {S : Nat → Prop} {d : D}

/-- A new disk: it lies in new blocks alone. -/
def NewPost (w : World) (e : Ending) (w' : World) : Prop := ∃ bd S, e = .returned (.pointer (some ⟨bd, 0, none⟩)) ∧ IsDisk w' bd S D.new ∧ Keep (fun _ => False) w w' ∧ ∀ k, S k → w.heap.size ≤ k
theorem new_abs (w : World) : Calls Try.prog 6 #[] w (NewPost w) := by
  refine (new_any w).mono ?_
  rintro e w' ⟨rfl, h1, h2, h3⟩
  refine ⟨w.heap.size + 1, _, rfl, ⟨w.heap.size, [], h1, List.Perm.refl _, List.Pairwise.nil, rfl⟩, h2, ?_⟩
  rintro k (rfl | rfl | ⟨f, hf, _⟩)
  · omega
  · exact Nat.le_refl _
  · cases hf

theorem fuse_abs (h : IsDisk w bd S d) (n : Int) (hn : -9223372036854775808 ≤ n ∧ n ≤ 9223372036854775807) :
    Calls Try.prog 13 #[.pointer (some ⟨bd, 0, none⟩), .int .i64 n] w fun e w' => e = .returned (.tuple #[]) ∧ Next w w' bd S (fuseM d n) := by
  obtain ⟨bm, fs, h1, hp, hs, rfl⟩ := h
  have h0 := h1.c0
  have c1 := h1.c1
  have f1 := free_of h1.disk 1
  have H1 := Lib.hid h1
  have HP := Lib.hid hp
  have HS := Lib.hid hs
  clear h1 hp hs
  go_enter Try.func13, Try.ntmps13
  go_wp2_with (go_at_call 34; refine (there_some _ _ _ h0).mono ?_; rintro e w' ⟨rfl, rfl⟩)
  go_end0
  refine ⟨rfl, ?_⟩
  have h1 := H1.out
  have hk : Keep (fun k => k = bd) w (w.setCell ⟨bd, 1, none⟩ (.int .i64 (max 0 n))) := (Keep.refl (fun k => k = bd) w).setCell ⟨bd, 1, none⟩ _ (.inr rfl)
  exact ⟨foot bd bm fs, ⟨bm, fs, h1.turn (fuse' := max 0 n) hk (setCell_at _ _ _ _ h1.disk) (by omega) (by omega), HP.out, HS.out, rfl⟩, hk.mono fun _ _ e => .inl e, fun _ h => .inl h⟩

theorem dead_abs (h : IsDisk w bd S d) :
    Calls Try.prog 15 #[.pointer (some ⟨bd, 0, none⟩)] w fun e w' => e = .returned (.bool d.dead) ∧ w = w' := by
  obtain ⟨bm, fs, h1, hp, hs, rfl⟩ := h
  have h0 := h1.c0
  have h2 := h1.c2
  clear h1 hp hs
  go_enter Try.func15, Try.ntmps15
  go_wp2_with (go_at_call 34; refine (there_some _ _ _ h0).mono ?_; rintro e w' ⟨rfl, rfl⟩)
  go_ret
  exact ⟨rfl, rfl⟩
end
end Go.Proofs.Ytlnlgjifepjkbaa
