/- The program's disk in memory, and the contracts of its smallest functions. -/
import Derived.Test.YtlnlgjifepjkbaaApp
import Derived.Test.YtlnlgjifepjkbaaModel
namespace Go.Proofs.Ytlnlgjifepjkbaa
open Go.RowKit
open Go.ChangeMaps (setBlock)
set_option maxRecDepth 20000

/-- A file of the program's disk. -/
structure PF where
  name : ByteArray
  blk : Nat
  sl : Value
  b : List UInt8
  sure : Nat

def maxFile : Nat := 1048576

structure FileAt (w : World) (f : PF) : Prop where
  cells : w.heap[f.blk]? = some (.cells #[f.sl, .int .i64 f.sure, .string f.name] 63 (0, 0))
  bytes : Own w 5 1 f.sl f.b.length (bv f.b)
  sure : f.sure ≤ f.b.length
  most : f.b.length ≤ maxFile

/-- Two files share nothing. -/
def Apart (f g : PF) : Prop := f.name ≠ g.name ∧ f.blk ≠ g.blk ∧ ∀ k, own f.sl = some k → own g.sl ≠ some k
theorem Apart.symm {f g : PF} (h : Apart f g) : Apart g f := ⟨Ne.symm h.1, Ne.symm h.2.1, fun k hk hk' => h.2.2 k hk' hk⟩

def ent (f : PF) : ByteArray × Value := (f.name, .pointer (some ⟨f.blk, 0, none⟩))

/-- A disk in memory: its block, its map's block, its files in the map's order. -/
structure DiskAt (w : World) (bd bm : Nat) (fs : List PF) (fuse : Int) (dead : Bool) : Prop where
  disk : w.heap[bd]? = some (.cells #[.map (some bm), .int .i64 fuse, .bool dead] 46 (0, 0))
  map : ∃ es clock, w.heap[bm]? = some (.map es clock) ∧ MapS es clock (fs.map ent)
  file : ∀ f ∈ fs, FileAt w f
  sep : fs.Pairwise Apart
  few : fs.length ≤ 16
  fuse0 : -1 ≤ fuse
  fuse1 : fuse ≤ 9223372036854775807

/-- The blocks of a disk. -/
def foot (bd bm : Nat) (fs : List PF) (k : Nat) : Prop := k = bd ∨ k = bm ∨ ∃ f ∈ fs, k = f.blk ∨ own f.sl = some k

section
variable {bd bm : Nat} {fs : List PF} {fuse : Int} {dead : Bool} {w : World}

theorem DiskAt.c0 (h : DiskAt w bd bm fs fuse dead) : w.cell? ⟨bd, 0, none⟩ = some (.map (some bm)) := by rw [cell_of h.disk]; rfl
theorem DiskAt.c1 (h : DiskAt w bd bm fs fuse dead) : w.cell? ⟨bd, 1, none⟩ = some (.int .i64 fuse) := by rw [cell_of h.disk]; rfl
theorem DiskAt.c2 (h : DiskAt w bd bm fs fuse dead) : w.cell? ⟨bd, 2, none⟩ = some (.bool dead) := by rw [cell_of h.disk]; rfl

theorem there_some (b m : Nat) (w : World) (h : w.cell? ⟨b, 0, none⟩ = some (.map (some m))) :
    Calls Try.prog 34 #[.pointer (some ⟨b, 0, none⟩)] w fun e w' => e = .returned (.bool true) ∧ w = w' := by
  go_enter Try.func34, Try.ntmps34
  go_wp2
  go_ret
  exact ⟨rfl, rfl⟩

theorem asked_any (h : DiskAt w bd bm fs fuse dead) (name : ByteArray) :
    Calls Try.prog 35 #[.pointer (some ⟨bd, 0, none⟩), .string name] w fun e w' => e = .returned (.int .i64 (askedE dead name)) ∧ w = w' := by
  have h0 := h.c0
  have h2 := h.c2
  clear h
  cases dead
  · by_cases hz : name.size = 0
    · have he := toList_empty hz
      go_enter Try.func35, Try.ntmps35
      go_wp2_with (go_at_call 34; refine (there_some _ _ _ h0).mono ?_; rintro e w' ⟨rfl, rfl⟩)
      go_ret
      exact ⟨by simp [askedE, hz], rfl⟩
    · have he := toList_ne hz
      have he' := isEmpty_no hz
      by_cases hl : 16 < name.size
      · go_enter Try.func35, Try.ntmps35
        go_wp2_with (go_at_call 34; refine (there_some _ _ _ h0).mono ?_; rintro e w' ⟨rfl, rfl⟩)
        go_ret
        exact ⟨by simp [askedE, hl], rfl⟩
      · go_enter Try.func35, Try.ntmps35
        go_wp2_with (go_at_call 34; refine (there_some _ _ _ h0).mono ?_; rintro e w' ⟨rfl, rfl⟩)
        go_ret
        exact ⟨by simp [askedE, hz, hl], rfl⟩
  · go_enter Try.func35, Try.ntmps35
    go_wp2_with (go_at_call 34; refine (there_some _ _ _ h0).mono ?_; rintro e w' ⟨rfl, rfl⟩)
    go_ret
    exact ⟨by simp [askedE], rfl⟩

theorem new_any (w : World) : Calls Try.prog 6 #[] w fun e w' => e = .returned (.pointer (some ⟨w.heap.size + 1, 0, none⟩)) ∧ DiskAt w' (w.heap.size + 1) w.heap.size [] (-1) false ∧ Keep (fun _ => False) w w' ∧ w'.heap.size = w.heap.size + 2 := by
  have hmm := @run_makeMap Try.prog
  go_enter Try.func6, Try.ntmps6
  go_wp2
  go_ret
  refine ⟨rfl, ⟨?_, ⟨#[], 0, ?_, MapS.empty⟩, by simp, by simp, by simp, by decide, by decide⟩, ((Keep.refl _ _).alloc _).alloc _, by simp⟩
  · exact alloc_at _ _ _ (by simp)
  · rw [alloc_old _ _ _ (by simp)]
    exact alloc_new w _

theorem dead_any (h : DiskAt w bd bm fs fuse dead) :
    Calls Try.prog 15 #[.pointer (some ⟨bd, 0, none⟩)] w fun e w' => e = .returned (.bool dead) ∧ w = w' := by
  have h0 := h.c0
  have h2 := h.c2
  clear h
  go_enter Try.func15, Try.ntmps15
  go_wp2_with (go_at_call 34; refine (there_some _ _ _ h0).mono ?_; rintro e w' ⟨rfl, rfl⟩)
  go_ret
  exact ⟨rfl, rfl⟩

theorem fuse_any (h : DiskAt w bd bm fs fuse dead) (n : Int) :
    Calls Try.prog 13 #[.pointer (some ⟨bd, 0, none⟩), .int .i64 n] w fun e w' => e = .returned (.tuple #[]) ∧ w' = w.setCell ⟨bd, 1, none⟩ (.int .i64 (max 0 n)) := by
  have h0 := h.c0
  have h1 := h.c1
  have hf := free_of h.disk 1
  clear h
  by_cases hn : n ≤ 0
  · have hm : max 0 n = 0 := by omega
    have HM := Lib.hid hm
    clear hm
    go_enter Try.func13, Try.ntmps13
    go_wp2_with (go_at_call 34; refine (there_some _ _ _ h0).mono ?_; rintro e w' ⟨rfl, rfl⟩)
    go_end0
    rw [HM.out]
    exact ⟨rfl, rfl⟩
  · have hm : max 0 n = n := by omega
    have HM := Lib.hid hm
    clear hm
    go_enter Try.func13, Try.ntmps13
    go_wp2_with (go_at_call 34; refine (there_some _ _ _ h0).mono ?_; rintro e w' ⟨rfl, rfl⟩)
    go_end0
    rw [HM.out]
    exact ⟨rfl, rfl⟩
end
end Go.Proofs.Ytlnlgjifepjkbaa
