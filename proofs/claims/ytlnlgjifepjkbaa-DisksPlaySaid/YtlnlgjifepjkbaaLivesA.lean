/- The chapter's example. -/
import Derived.Test.YtlnlgjifepjkbaaLawJ
import Derived.Laws.BytesString
namespace Go.Proofs.Ytlnlgjifepjkbaa
open Go.RowKit
set_option maxRecDepth 20000

def nmA : ByteArray := { data := #[97] }
theorem nmA_size : nmA.size = 1 := rfl
theorem l1 : addM D.new nmA [1, 2] = (⟨[⟨nmA, [1, 2], 0⟩], -1, false⟩, 0) := by
  simp [addM, doM, aheadM, askedE, nmA_size, D.new, findM, sizeM, turnM, insF, burned]
theorem l2 : sureM ⟨[⟨nmA, [1, 2], 0⟩], -1, false⟩ nmA = (⟨[⟨nmA, [1, 2], 2⟩], -1, false⟩, 0) := by
  simp [sureM, doM, aheadM, askedE, nmA_size, findM, sizeM, turnM, repF, burned]
theorem l3 : addM ⟨[⟨nmA, [1, 2], 2⟩], -1, false⟩ nmA [3, 4] = (⟨[⟨nmA, [1, 2, 3, 4], 2⟩], -1, false⟩, 0) := by
  simp [addM, doM, aheadM, askedE, nmA_size, findM, sizeM, turnM, repF, burned]
theorem l4 : liftM ⟨[⟨nmA, [1, 2, 3, 4], 2⟩], -1, false⟩ [1] = ⟨[⟨nmA, [1, 2, 3], 3⟩], -1, false⟩ := by
  have e : 2 + (min (max 0 1) 2 : Int).toNat = 3 := by decide
  simp [liftM, liftF, moreM, e]
theorem l5 : readM ⟨[⟨nmA, [1, 2, 3], 3⟩], -1, false⟩ nmA = ([1, 2, 3], 0) := by
  simp [readM, askedE, nmA_size, findM]
theorem l6 : putM (fuseM ⟨[⟨nmA, [1, 2, 3], 3⟩], -1, false⟩ 0) nmA [9] = (⟨[⟨nmA, [1, 2, 3], 3⟩], 0, true⟩, 17) := by
  simp [fuseM, putM, doM, aheadM, askedE, nmA_size, findM]

/-- A disk in new memory holds d. -/
def On (w W : World) (bd : Nat) (d : D) : Prop := ∃ S, IsDisk W bd S d ∧ Keep (fun _ => False) w W ∧ ∀ k, S k → w.heap.size ≤ k

section
variable {w W W' : World} {bd : Nat} {d d' : D}
theorem On.of {S : Nat → Prop} (h2 : Keep (fun _ => False) w W) (h3 : ∀ k, S k → w.heap.size ≤ k) (n : Next W W' bd S d') : On w W' bd d' := by
  obtain ⟨S', g1, g2, g3⟩ := n
  refine ⟨S', g1, h2.trans' g2 (fun _ _ h => h) (fun i hi hs => ?_), fun k hk => ?_⟩
  · have := h3 i hs; omega
  · rcases g3 k hk with h4 | h4
    · exact h3 k h4
    · exact Nat.le_trans h2.size h4
theorem On.keep (h : On w W bd d) (k : Keep (fun _ => False) W W') : On w W' bd d := by
  obtain ⟨S, h1, h2, h3⟩ := h
  exact ⟨S, h1.keep k (fun _ _ h => h), h2.trans k, h3⟩
/-- A call of a disk. -/
def OnPost (w : World) (bd : Nat) (r : D × Int) (e : Ending) (w' : World) : Prop := e = .returned (.int .i64 r.2) ∧ On w w' bd r.1

theorem on_did (h : On w W bd d) {f : FuncId} {args : Array Value} {r : D × Int} (c : ∀ S, IsDisk W bd S d → (∀ k, S k → k < W.heap.size) → Calls Try.prog f args W (Did W bd S r)) : Calls Try.prog f args W (OnPost w bd r) := by
  obtain ⟨S, h1, h2, h3⟩ := h
  exact (c S h1 (fun k hk => h1.lt hk)).mono fun e w' hh => ⟨hh.1, On.of h2 h3 hh.2⟩
/-- A literal of bytes. -/
theorem lit_sl (W : World) (l : List UInt8) (hl : l.length ≤ 1000) : Sl (W.alloc (.cells (bv l).toArray 5)) 1 (.slice (some ⟨W.heap.size, 0, none⟩) l.length l.length) l.length (bv l) :=
  Sl.ofBlock (alloc_new W _) (by simp) (Nat.le_refl _) (by unfold maxLen; omega)
theorem on_add (h : On w W bd d) (name : ByteArray) (l : List UInt8) (hl : l.length ≤ 1000) {r : D × Int} (hr : addM d name l = r) :
    Calls Try.prog 9 #[.pointer (some ⟨bd, 0, none⟩), .string name, .slice (some ⟨W.heap.size, 0, none⟩) l.length l.length] (W.alloc (.cells (bv l).toArray 5)) (OnPost w bd r) := by
  subst hr
  obtain ⟨S, h1, h2, h3⟩ := h
  have k : Keep (fun _ => False) W (W.alloc (.cells (bv l).toArray 5)) := (Keep.refl _ _).alloc _
  exact (add_abs (h1.keep k (fun _ _ h => h)) name _ l (lit_sl W l hl) (fun g hg hs => by have := h1.lt hs; simp [blk] at hg; omega) (by omega)).mono fun e w' hh => ⟨hh.1, On.of (h2.trans k) h3 hh.2⟩
theorem on_put (h : On w W bd d) (name : ByteArray) (l : List UInt8) (hl : l.length ≤ 1000) {r : D × Int} (hr : putM d name l = r) :
    Calls Try.prog 14 #[.pointer (some ⟨bd, 0, none⟩), .string name, .slice (some ⟨W.heap.size, 0, none⟩) l.length l.length] (W.alloc (.cells (bv l).toArray 5)) (OnPost w bd r) := by
  subst hr
  obtain ⟨S, h1, h2, h3⟩ := h
  have k : Keep (fun _ => False) W (W.alloc (.cells (bv l).toArray 5)) := (Keep.refl _ _).alloc _
  exact (put_abs (h1.keep k (fun _ _ h => h)) name _ l (lit_sl W l hl) (fun g hg hs => by have := h1.lt hs; simp [blk] at hg; omega) (by omega)).mono fun e w' hh => ⟨hh.1, On.of (h2.trans k) h3 hh.2⟩
theorem on_sure (h : On w W bd d) (name : ByteArray) {r : D × Int} (hr : sureM d name = r) : Calls Try.prog 10 #[.pointer (some ⟨bd, 0, none⟩), .string name] W (OnPost w bd r) := by
  subst hr
  exact on_did h fun S h1 _ => sure_abs h1 name
def OnDone (w : World) (bd : Nat) (d' : D) (e : Ending) (w' : World) : Prop := e = .returned (.tuple #[]) ∧ On w w' bd d'
theorem on_fuse (h : On w W bd d) (n : Int) (hn : -9223372036854775808 ≤ n ∧ n ≤ 9223372036854775807) : Calls Try.prog 13 #[.pointer (some ⟨bd, 0, none⟩), .int .i64 n] W (OnDone w bd (fuseM d n)) := by
  obtain ⟨S, h1, h2, h3⟩ := h
  exact (fuse_abs h1 n hn).mono fun e w' hh => ⟨hh.1, On.of h2 h3 hh.2⟩
theorem on_lift (h : On w W bd d) (l : List Int) (hl : l.length ≤ 1000) (hb : ∀ i ∈ l, -9223372036854775808 ≤ i ∧ i ≤ 9223372036854775807) {d' : D} (hr : liftM d l = d') :
    Calls Try.prog 11 #[.pointer (some ⟨bd, 0, none⟩), .slice (some ⟨W.heap.size, 0, none⟩) l.length l.length] (W.alloc (.cells (iv l).toArray 3)) (OnDone w bd d') := by
  subst hr
  obtain ⟨S, h1, h2, h3⟩ := h
  have k : Keep (fun _ => False) W (W.alloc (.cells (iv l).toArray 3)) := (Keep.refl _ _).alloc _
  exact (lift_abs (h1.keep k (fun _ _ h => h)) _ l (Sl.ofBlock (alloc_new W _) (by simp) (Nat.le_refl _) (by unfold maxLen; omega)) (fun g hg _ hs => by have := h1.lt hs; simp [blk] at hg; omega) hb).mono fun e w' hh => ⟨hh.1, On.of (h2.trans k) h3 hh.2⟩
def OnNew (w : World) (e : Ending) (w' : World) : Prop := ∃ bd, e = .returned (.pointer (some ⟨bd, 0, none⟩)) ∧ On w w' bd D.new
theorem on_new (w : World) : Calls Try.prog 6 #[] w (OnNew w) :=
  (new_abs w).mono fun e w' ⟨bd, S, he, h1, h2, h3⟩ => ⟨bd, he, S, h1, h2, h3⟩

def E1 : D := ⟨[⟨nmA, [1, 2], 0⟩], -1, false⟩
def E2 : D := ⟨[⟨nmA, [1, 2], 2⟩], -1, false⟩
def E3 : D := ⟨[⟨nmA, [1, 2, 3, 4], 2⟩], -1, false⟩
def E4 : D := ⟨[⟨nmA, [1, 2, 3], 3⟩], -1, false⟩
def E6 : D := ⟨[⟨nmA, [1, 2, 3], 3⟩], 0, true⟩
def OnI (w : World) (bd : Nat) (n : Int) (d : D) (e : Ending) (w' : World) : Prop := e = .returned (.int .i64 n) ∧ On w w' bd d
theorem ex1 (h : On w W bd D.new) : Calls Try.prog 9 #[.pointer (some ⟨bd, 0, none⟩), .string { data := #[97] }, .slice (some ⟨W.heap.size, 0, none⟩) 2 2] (W.alloc (.cells #[.int .u8 1, .int .u8 2] 5)) (OnI w bd 0 E1) := on_add h nmA [1, 2] (by decide) l1
theorem ex2 (h : On w W bd E1) : Calls Try.prog 10 #[.pointer (some ⟨bd, 0, none⟩), .string { data := #[97] }] W (OnI w bd 0 E2) := on_sure h nmA l2
theorem ex3 (h : On w W bd E2) : Calls Try.prog 9 #[.pointer (some ⟨bd, 0, none⟩), .string { data := #[97] }, .slice (some ⟨W.heap.size, 0, none⟩) 2 2] (W.alloc (.cells #[.int .u8 3, .int .u8 4] 5)) (OnI w bd 0 E3) := on_add h nmA [3, 4] (by decide) l3
theorem ex4 (h : On w W bd E3) : Calls Try.prog 11 #[.pointer (some ⟨bd, 0, none⟩), .slice (some ⟨W.heap.size, 0, none⟩) 1 1] (W.alloc (.cells #[.int .i64 1] 3)) (OnDone w bd E4) := on_lift h [1] (by decide) (by decide) l4
/-- .. and the three bytes at block g are none of its own. -/
def OnG (w W : World) (bd : Nat) (d : D) (g : Nat) : Prop := ∃ S, IsDisk W bd S d ∧ Keep (fun _ => False) w W ∧ (∀ k, S k → w.heap.size ≤ k) ∧ ¬ S g ∧ g < W.heap.size ∧ W.cell? ⟨g, 0, none⟩ = some (.int .u8 1) ∧ W.cell? ⟨g, 1, none⟩ = some (.int .u8 2) ∧ W.cell? ⟨g, 2, none⟩ = some (.int .u8 3)
theorem OnG.of {S : Nat → Prop} {g : Nat} (h2 : Keep (fun _ => False) w W) (h3 : ∀ k, S k → w.heap.size ≤ k) (hg : ¬ S g) (hl : g < W.heap.size) (c0 : W.cell? ⟨g, 0, none⟩ = some (.int .u8 1)) (c1 : W.cell? ⟨g, 1, none⟩ = some (.int .u8 2)) (c2 : W.cell? ⟨g, 2, none⟩ = some (.int .u8 3)) (n : Next W W' bd S d') : OnG w W' bd d' g := by
  have ho := On.of h2 h3 n
  obtain ⟨S', g1, g2, g3⟩ := n
  refine ⟨S', g1, h2.trans' g2 (fun _ _ h => h) (fun i hi hs => ?_), fun k hk => ?_, fun hs => ?_, Nat.lt_of_lt_of_le hl g2.size, g2.cell c0 hg, g2.cell c1 hg, g2.cell c2 hg⟩
  · have := h3 i hs; omega
  · rcases g3 k hk with h4 | h4
    · exact h3 k h4
    · exact Nat.le_trans h2.size h4
  · rcases g3 g hs with h4 | h4
    · exact hg h4
    · omega
def ReadIs (w : World) (bd : Nat) (d : D) (e : Ending) (w' : World) : Prop := ∃ g, e = .returned (.tuple #[.slice (some ⟨g, 0, none⟩) 3 3, .int .i64 0]) ∧ OnG w w' bd d g
theorem ex5 (h : On w W bd E4) : Calls Try.prog 12 #[.pointer (some ⟨bd, 0, none⟩), .string { data := #[97] }] W (ReadIs w bd E4) := by
  obtain ⟨S, h1, h2, h3⟩ := h
  refine (read_abs h1 nmA).mono ?_
  rintro e w' ⟨a, he, q1, q2, q3⟩
  have e5 : readM E4 nmA = ([1, 2, 3], 0) := l5
  rw [e5] at he q1 q3
  simp only [List.length_cons, List.length_nil] at he q1 q3
  have hs := q1.sl
  obtain ⟨_, a', c', e1, _, _, hr⟩ := q1
  cases e1
  rcases hr with hr | ⟨g, cur, rfl, hg, _⟩
  · cases hr
  · obtain ⟨_, a', c', e1, _, _, hr⟩ := hs
    cases e1
    obtain ⟨b, off, e1, hc⟩ := hr (by simp [bv])
    cases e1
    refine ⟨g, he, S, h1.keep q2 (fun _ _ h => h), h2.trans q2, h3, fun hk => ?_, lt_of_heap hg, by simpa using hc 0 _ rfl, by simpa using hc 1 _ rfl, by simpa using hc 2 _ rfl⟩
    have := h1.lt hk
    have := q3 g rfl
    omega
def OnGDone (w : World) (bd : Nat) (d' : D) (g : Nat) (e : Ending) (w' : World) : Prop := e = .returned (.tuple #[]) ∧ OnG w w' bd d' g
def OnGI (w : World) (bd : Nat) (n : Int) (d' : D) (g : Nat) (e : Ending) (w' : World) : Prop := e = .returned (.int .i64 n) ∧ OnG w w' bd d' g
theorem exf {g : Nat} (h : OnG w W bd E4 g) : Calls Try.prog 13 #[.pointer (some ⟨bd, 0, none⟩), .int .i64 0] W (OnGDone w bd (fuseM E4 0) g) := by
  obtain ⟨S, h1, h2, h3, h4, h5, h6, h7, h8⟩ := h
  exact (fuse_abs h1 0 (by omega)).mono fun e w' hh => ⟨hh.1, OnG.of h2 h3 h4 h5 h6 h7 h8 hh.2⟩
theorem ex6 {g : Nat} (h : OnG w W bd (fuseM E4 0) g) : Calls Try.prog 14 #[.pointer (some ⟨bd, 0, none⟩), .string { data := #[97] }, .slice (some ⟨W.heap.size, 0, none⟩) 1 1] (W.alloc (.cells #[.int .u8 9] 5)) (OnGI w bd 17 E6 g) := by
  obtain ⟨S, h1, h2, h3, h4, h5, h6, h7, h8⟩ := h
  have k : Keep (fun _ => False) W (W.alloc (.cells #[.int .u8 9] 5)) := (Keep.refl _ _).alloc _
  refine (put_abs (h1.keep k (fun _ _ h => h)) nmA _ [9] (lit_sl W [9] (by decide)) (fun g hg hs => by have := h1.lt hs; simp [blk] at hg; omega) (by decide)).mono fun e w' hh => ?_
  have e6 : putM (fuseM E4 0) nmA [9] = (E6, 17) := l6
  have hh' := hh
  unfold Did at hh'
  rw [e6] at hh'
  exact ⟨hh'.1, OnG.of (h2.trans k) h3 h4 (Nat.lt_of_lt_of_le h5 k.size) (k.cell h6 (fun h => h)) (k.cell h7 (fun h => h)) (k.cell h8 (fun h => h)) hh'.2⟩
theorem ex7 {g : Nat} (h : OnG w W bd E6 g) : Calls Try.prog 15 #[.pointer (some ⟨bd, 0, none⟩)] W fun e w' => e = .returned (.bool true) ∧ W = w' := by
  obtain ⟨S, h1, _⟩ := h
  exact dead_abs h1
theorem conv3 {g : Nat} (h : OnG w W bd d g) : (convert 32 9 (.slice (some ⟨g, 0, none⟩) 3 3)).run Try.prog W = .ok (.string { data := #[1, 2, 3] }) W := by
  obtain ⟨S, _, _, _, _, _, c0, c1, c2⟩ := h
  rw [run_convert_bytes_string W _ _ _ _ _ _ Try.underlying32 Try.underlying5 Try.underlying9]
  have := run_bytesToString (P := Try.prog) W ⟨g, 0, none⟩ 3 3 [1, 2, 3] (by simp [loadCells, loadCellsFrom, Addr.add, go_sem, c0, c1, c2])
  rw [this]
  rfl

set_option maxHeartbeats 2000000 in
theorem lives17_abs (w : World) : Calls Try.prog 5 #[] w (Fine w) := by
  have HN := Lib.hid (on_new w)
  go_enter Try.func5, Try.ntmps5
  go_wp2_with fail
  refine HN.out.mono ?_
  rintro e w1 ⟨bd, rfl, k1⟩
  have K1 := Lib.hid k1
  clear k1
  go_wp2_with fail
  refine (ex1 K1.out).mono ?_
  rintro e w2 ⟨rfl, k⟩
  have K2 := Lib.hid k
  clear k
  go_wp2_with fail
  refine (ex2 K2.out).mono ?_
  rintro e w3 ⟨rfl, k⟩
  have K3 := Lib.hid k
  clear k
  go_wp2_with fail
  refine (ex3 K3.out).mono ?_
  rintro e w4 ⟨rfl, k⟩
  have K4 := Lib.hid k
  clear k
  go_wp2_with fail
  refine (ex4 K4.out).mono ?_
  rintro e w5 ⟨rfl, k⟩
  have K5 := Lib.hid k
  clear k
  go_wp2_with fail
  refine (ex5 K5.out).mono ?_
  rintro e w6 ⟨g, rfl, k⟩
  have K6 := Lib.hid k
  clear k
  go_wp2_with fail
  refine (exf K6.out).mono ?_
  rintro e w7 ⟨rfl, k⟩
  have K7 := Lib.hid k
  clear k
  go_wp2_with fail
  refine (ex6 K7.out).mono ?_
  rintro e w8 ⟨rfl, k⟩
  have K8 := Lib.hid k
  have hcv := conv3 k
  clear k
  go_wp2_with fail
  refine (ex7 K8.out).mono ?_
  rintro e w9 ⟨rfl, rfl⟩
  go_wp2
  go_ret
  obtain ⟨S, h1, h2, _⟩ := K8.out
  exact ⟨rfl, h2⟩
end
end Go.Proofs.Ytlnlgjifepjkbaa
