/- The reference's disk: set, walked. -/
import Derived.Test.YtlnlgjifepjkbaaRefC
namespace Go.Proofs.Ytlnlgjifepjkbaa
open Go.RowKit
set_option maxRecDepth 20000

section
variable {m : Nat} {v : Value} {rs : List RF} {burns : Bool} {fuse : Int} {dead : Bool} {w : World} {R : Nat → Prop} {d : D}

/-- What is wrong ahead of the fuse. -/
theorem rset_limit (h : IsRef w m R d) (name : ByteArray) (b : Value) (l : List UInt8) (hS : Sl w 1 b l.length (bv l)) (sure : Nat) (hx : 1048576 < l.length ∨ findM name d.fs = none ∧ 16 ≤ d.fs.length) :
    Calls Try.prog 42 #[.pointer (some ⟨m, 0, none⟩), .string name, b, .int .i64 sure] w fun e w' => e = .returned (.int .i64 3) ∧ w = w' := by
  obtain ⟨v, rs, burns, fuse, h1, h2, h3, rfl⟩ := h
  obtain ⟨a, c, rfl⟩ := hS.form
  have hA := Lib.hid (rat_any h1 name)
  have h0 := h1.c0
  obtain ⟨av, cv, hv⟩ := h1.files.form
  rw [hv] at h0
  have hll : l.length ≤ 9223372036854775807 := by
    obtain ⟨_, _, _, e, q1, q2, _⟩ := hS
    cases e
    unfold maxLen at q2
    omega
  have hfew := h1.few
  by_cases hbig : 1048576 < l.length
  · clear h1 h2 h3 hx hS hv
    go_enter Try.func42, Try.ntmps42
    go_wp2_with (go_at_call 41; refine hA.out.mono ?_; rintro e w' ⟨rfl, rfl⟩)
    go_ret
    exact ⟨rfl, rfl⟩
  · obtain ⟨hn, h16⟩ := hx.resolve_left hbig
    have hat : atM name rs = -1 := by
      rcases atM_cases name rs with ⟨h5, _⟩ | ⟨i, hi, _, _, h5⟩
      · exact h5
      · rw [h2, hn] at h5; cases h5
    rw [hat] at hA
    have h16' : 16 ≤ rs.length := by rw [← h2] at h16; simpa using h16
    clear h1 h2 h3 hx hS hv h16 hat hn
    go_enter Try.func42, Try.ntmps42
    go_wp2_with (go_at_call 41; refine hA.out.mono ?_; rintro e w' ⟨rfl, rfl⟩)
    go_ret
    exact ⟨rfl, rfl⟩

theorem rset_burnt (h : RefAt w m v rs true 0 dead) (name : ByteArray) (b : Value) (l : List UInt8) (hS : Sl w 1 b l.length (bv l)) (sure : Nat) (hx : ¬ (1048576 < l.length ∨ findM name (rs.map RF.abs) = none ∧ 16 ≤ rs.length)) :
    Calls Try.prog 42 #[.pointer (some ⟨m, 0, none⟩), .string name, b, .int .i64 sure] w fun e w' => e = .returned (.int .i64 17) ∧ w' = w.setCell ⟨m, 3, none⟩ (.bool true) := by
  obtain ⟨a, c, rfl⟩ := hS.form
  have hA := Lib.hid (rat_any h name)
  have hB := Lib.hid (burn_no h)
  have h0 := h.c0
  obtain ⟨av, cv, hv⟩ := h.files.form
  rw [hv] at h0
  have hfew := h.few
  have hbig : l.length ≤ 1048576 := by omega
  rcases atM_cases name rs with ⟨h5, h6⟩ | ⟨i, hi, h5, _, h6⟩
  · have h16 : rs.length < 16 := by
      rcases Nat.lt_or_ge rs.length 16 with h | h
      · exact h
      · exact absurd (.inr ⟨h6, h⟩) hx
    rw [h5] at hA
    clear h hx hS hv h5 h6
    go_enter Try.func42, Try.ntmps42
    go_wp2_with (first | (go_at_call 41; refine hA.out.mono ?_; rintro e w' ⟨rfl, rfl⟩) | (go_at_call 44; refine hB.out.mono ?_; rintro e w' ⟨rfl, rfl⟩))
    go_ret
    exact ⟨rfl, rfl⟩
  · rw [h5] at hA
    clear h hx hS hv h5 h6
    go_enter Try.func42, Try.ntmps42
    go_wp2_with (first | (go_at_call 41; refine hA.out.mono ?_; rintro e w' ⟨rfl, rfl⟩) | (go_at_call 44; refine hB.out.mono ?_; rintro e w' ⟨rfl, rfl⟩))
    go_ret
    exact ⟨rfl, rfl⟩

/-- What set makes of a file that is there. -/
def SetFound (w : World) (m : Nat) (v : Value) (rs : List RF) (burns : Bool) (fuse : Int) (dead : Bool) (i : Nat) (name : ByteArray) (l : List UInt8) (sure : Nat) (e : Ending) (w' : World) : Prop :=
  e = .returned (.int .i64 0) ∧ ∃ sl fuse', RefAt w' m v (rs.set i ⟨name, sl, l, sure⟩) burns fuse' dead ∧ burned (if burns then fuse else -1) = (if burns then fuse' else -1) ∧ Keep (fun k => k = m ∨ own v = some k) w w' ∧ (∀ g, blk sl = some g → w.heap.size ≤ g)

theorem rset_found (h : RefAt w m v rs burns fuse dead) (name : ByteArray) (b : Value) (l : List UInt8) (hS : Sl w 1 b l.length (bv l)) (hbm : blk b = some m → l = []) (sure : Nat) (hsure : sure ≤ l.length) (hbig : l.length ≤ 1048576) (hz : (if burns then fuse else -1) ≠ 0) {i : Nat} (hi : i < rs.length) (hat : atM name rs = i) (hn : rs[i].name = name) :
    Calls Try.prog 42 #[.pointer (some ⟨m, 0, none⟩), .string name, b, .int .i64 sure] w (SetFound w m v rs burns fuse dead i name l sure) := by
  obtain ⟨a, c, rfl⟩ := hS.form
  have hA := Lib.hid (rat_any h name)
  rw [hat] at hA
  have hB := Lib.hid (burn_go h hz)
  obtain ⟨g, cv, rfl, _, _, _, _, hg, q5, q6⟩ := h.at hi
  have h0 := h.c0
  have hfew := h.few
  have HS := Lib.hid hS
  have HBM := Lib.hid hbm
  have HI := Lib.hid hi
  have hiI : (i : Int) < rs.length := by omega
  have HG := Lib.hid hg
  have HN := Lib.hid hn
  clear h hS hz hat hbm hg q6 hn
  go_enter Try.func42, Try.ntmps42
  go_wp2_with (first | (go_at_call 41; refine hA.out.mono ?_; rintro e w' ⟨rfl, rfl⟩) | (go_at_call 44; refine hB.out.mono ?_; rintro e w1 ⟨rfl, fuse', k1, k2, k3⟩; have K1 := Lib.hid k1; have K2 := Lib.hid k2; have K3 := Lib.hid k3; clear k1 k2 k3) | (at_builtin; refine wpList_appB _ rfl (.const (.slice none 0 0)) (.tmp 35) rfl (.slice none 0 0) (.slice a l.length c) [] l rfl rfl (Own.nil _ _ _) (HS.out.keepB K3.out HBM.out) (by simp; omega) ?_; intro a' c' w2 j1 j2 j3; simp only [List.nil_append] at j1 j3 ⊢; have hk2 : Hid (RefAt w2 m (.slice (some ⟨g, 0, none⟩) rs.length cv) rs burns fuse' dead) := K1.out.keep j2 (fun _ _ e => by simp [own] at e); have x0 := hk2.out.c0; obtain ⟨x1, x2, x3, x4⟩ := hk2.out.cells HI.out; have xlt := lt_of_heap hk2.out.disk; have xg := hk2.out.files.lt HG.out; have J1 := Lib.hid j1; have J2 := Lib.hid j2; have J3 := Lib.hid j3; clear j1 j2 j3))
  have y0 : (w2.alloc (.cells #[.string name, .slice a' l.length c', .int .i64 sure] 56)).cell? ⟨m, 0, none⟩ = some (.slice (some ⟨g, 0, none⟩) rs.length cv) := by rw [World.cell?_alloc_past _ _ _ xlt]; exact x0
  have y1 : (w2.alloc (.cells #[.string name, .slice a' l.length c', .int .i64 sure] 56)).cell? ⟨g, i * 3, none⟩ = some (.string rs[i].name) := by rw [World.cell?_alloc_past _ _ _ xg]; exact x1
  have y2 : (w2.alloc (.cells #[.string name, .slice a' l.length c', .int .i64 sure] 56)).cell? ⟨g, i * 3 + 1, none⟩ = some rs[i].sl := by rw [World.cell?_alloc_past _ _ _ xg]; exact x2
  have y3 : (w2.alloc (.cells #[.string name, .slice a' l.length c', .int .i64 sure] 56)).cell? ⟨g, i * 3 + 2, none⟩ = some (.int .i64 rs[i].sure) := by rw [World.cell?_alloc_past _ _ _ xg]; exact x3
  have y4 : ∀ j, (w2.alloc (.cells #[.string name, .slice a' l.length c', .int .i64 sure] 56)).frozen? ⟨g, j, none⟩ = false := fun j => by rw [World.frozen?_alloc_past _ _ _ xg]; exact x4 j
  have z0 : (w2.alloc (.cells #[.string name, .slice a' l.length c', .int .i64 sure] 56)).cell? ⟨w2.heap.size, 0, none⟩ = some (.string name) := by simp
  have z1 : (w2.alloc (.cells #[.string name, .slice a' l.length c', .int .i64 sure] 56)).cell? ⟨w2.heap.size, 1, none⟩ = some (.slice a' l.length c') := by simp
  have z2 : (w2.alloc (.cells #[.string name, .slice a' l.length c', .int .i64 sure] 56)).cell? ⟨w2.heap.size, 2, none⟩ = some (.int .i64 sure) := by simp
  have HK3 : Hid (Keep (fun _ => False) w2 (w2.alloc (.cells #[.string name, .slice a' l.length c', .int .i64 sure] 56))) := (Keep.refl _ _).alloc _
  generalize w2.alloc (.cells #[.string name, .slice a' l.length c', .int .i64 sure] 56) = W3 at *
  generalize w2.heap.size = N at *
  clear x0 x1 x2 x3 x4 xg xlt
  go_still_tail 7, (by kernel_rfl)
  change wpList _ _ _ _ _ W3.drew
  go_wp2
  go_ret
  have hset := set_close (hk2.out.keep HK3.out (fun _ _ h => h)) HI.out HN.out (J1.out.keep HK3.out (fun _ _ h => h)) hsure hbig HG.out
  refine ⟨rfl, _, fuse', hset.1.keep ((Keep.refl (fun _ => False) _).drew) (fun _ _ h => h), K2.out, ?_, ?_⟩
  · refine (((K3.out.mono (T := fun k => k = m ∨ own (.slice (some ⟨g, 0, none⟩) rs.length cv) = some k) (fun _ _ e => .inl e)).trans' J2.out (fun _ _ h => h) (fun _ _ e => by simp [own] at e)).trans' HK3.out (fun _ _ h => h) (fun _ _ h => h.elim)).trans' hset.2.drew (fun _ _ h => h) (fun k _ e => .inr (by rw [e]; exact HG.out))
  · intro g' hg'
    rcases J3.out with ⟨_, h5⟩ | ⟨h5, _⟩
    · rw [h5] at hg'; simp [blk] at hg'
    · rw [h5] at hg'
      have := K3.out.size
      simp at hg'
      omega
end
end Go.Proofs.Ytlnlgjifepjkbaa
