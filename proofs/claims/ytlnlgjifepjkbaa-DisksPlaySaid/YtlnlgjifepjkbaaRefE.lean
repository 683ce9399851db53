/- The reference's disk: set, where the file is new. -/
import Derived.Test.YtlnlgjifepjkbaaRefD
namespace Go.Proofs.Ytlnlgjifepjkbaa
open Go.RowKit
set_option maxRecDepth 20000

theorem Sl.ofBlock {w : World} {g n c sz : Nat} {cs : Array Value} {t : TypeId} {fr : Nat × Nat} (h : w.heap[g]? = some (.cells cs t fr)) (hl : cs.size = n * sz) (hn : n ≤ c) (hc : c ≤ maxLen) : Sl w sz (.slice (some ⟨g, 0, none⟩) n c) n cs.toList :=
  ⟨by simpa using hl, _, c, rfl, hn, hc, fun _ => ⟨g, 0, rfl, fun j u hu => by rw [Nat.zero_add, cell_of h]; simpa using hu⟩⟩

theorem wpList_appF (w : World) {ops : Array Oper} {rest : List Oper} {o : Oper} {a : Act} {Q : Exit → Act → World → Prop} (hgd : o.guard = none) (s x : Operand)
    (ho : o.op = .call { callee := .builtin .append, args := #[s, x], argTypes := #[28, 28] })
    (v xv : Value) (l k : List RF) (n q : Nat) (hs : a.eval s = v) (hx : a.eval x = xv) (hv : Own w 56 3 v q (rcs l)) (hsrc : Sl w 3 xv n (rcs k)) (h1 : ∀ u ∈ rcs k, u.oneCell' = true)
    (hb : q + n ≤ 1000000)
    (h : ∀ a' c' w', Own w' 56 3 (.slice a' (q + n) c') (q + n) (rcs (l ++ k)) → Keep (fun i => own v = some i ∧ 0 < n) w w' →
      (own (.slice a' (q + n) c') = own v ∧ blk (.slice a' (q + n) c') = blk v ∨ blk (.slice a' (q + n) c') = some w.heap.size ∧ own (.slice a' (q + n) c') = some w.heap.size) →
      wpList Try.prog ops Q rest (a.put o.dst (.slice a' (q + n) c')) w') : wpList Try.prog ops Q (o :: rest) a w := by
  obtain ⟨i, hi, hz0, hz1, hz2⟩ := info_parts info_file
  refine wpList_app w hgd s x _ _ ho Try.underlying28 hi hz0 hz1 hz2 rfl v xv q n (rcs l) (rcs k) hs hx hv (Src.ofSl Try.underlying28 hsrc h1) (by unfold maxLen; omega) (by omega) ?_
  rw [← rcs_append]
  exact h
theorem step_appF (w : World) {ops : Array Oper} {o : Oper} {a : Act} {K : Act → World → Prop} {Q : Exit → Act → World → Prop} {E : Prop} (hgd : o.guard = none) (s x : Operand)
    (ho : o.op = .call { callee := .builtin .append, args := #[s, x], argTypes := #[28, 28] })
    (v xv : Value) (l k : List RF) (n q : Nat) (hs : a.eval s = v) (hx : a.eval x = xv) (hv : Own w 56 3 v q (rcs l)) (hsrc : Sl w 3 xv n (rcs k)) (h1 : ∀ u ∈ rcs k, u.oneCell' = true)
    (hb : q + n ≤ 1000000)
    (h : ∀ a' c' w', Own w' 56 3 (.slice a' (q + n) c') (q + n) (rcs (l ++ k)) → Keep (fun i => own v = some i ∧ 0 < n) w w' →
      (own (.slice a' (q + n) c') = own v ∧ blk (.slice a' (q + n) c') = blk v ∨ blk (.slice a' (q + n) c') = some w.heap.size ∧ own (.slice a' (q + n) c') = some w.heap.size) →
      K (a.put o.dst (.slice a' (q + n) c')) w') :
    if Region.wanted o (yielded ops a.tmps) = true then Oper.wp Try.prog o a w K Q else E := by
  obtain ⟨i, hi, hz0, hz1, hz2⟩ := info_parts info_file
  refine step_app w hgd s x _ _ ho Try.underlying28 hi hz0 hz1 hz2 rfl v xv q n (rcs l) (rcs k) hs hx hv (Src.ofSl Try.underlying28 hsrc h1) (by unfold maxLen; omega) (by omega) ?_
  rw [← rcs_append]
  exact h

section
variable {m : Nat} {v : Value} {rs : List RF} {burns : Bool} {fuse : Int} {dead : Bool} {w : World} {R : Nat → Prop} {d : D}

/-- The place where a new name goes. -/
def Place (rs : List RF) (name : ByteArray) (k : Nat) : Prop := k ≤ rs.length ∧ (∀ j (h : j < rs.length), j < k → lt rs[j].name name) ∧ ∀ h : k < rs.length, ¬ lt rs[k].name name
theorem Place.ins {name : ByteArray} {k : Nat} (h : Place rs name k) (r : RF) (hr : r.name = name) : (rs.take k ++ [r] ++ rs.drop k).map RF.abs = insF r.abs (rs.map RF.abs) := by
  obtain ⟨h1, h2, h3⟩ := h
  induction rs generalizing k with
  | nil => simp at h1; subst h1; rfl
  | cons x rs ih =>
    have e : r.abs.name = name := hr
    cases k with
    | zero =>
      have h4 := h3 (by simp)
      have : ¬ lt x.abs.name r.abs.name := by rw [e]; exact h4
      simp [insF, this]
    | succ k =>
      have h4 := h2 0 (by simp) (by omega)
      have : lt x.abs.name r.abs.name := by rw [e]; exact h4
      have ih' := ih (k := k) (by simpa using h1) (fun j hj hjk => h2 (j + 1) (by simpa using hj) (by omega)) (fun hk => h3 (by simpa using hk))
      have e2 : insF r.abs ((x :: rs).map RF.abs) = x.abs :: insF r.abs (rs.map RF.abs) := by simp [insF, this]
      rw [e2, ← ih']
      simp

theorem take_src {a : Option Addr} {c k : Nat} (h : RefAt w m (.slice a rs.length c) rs burns fuse dead) (hk : k ≤ rs.length) (hc : c ≤ maxLen) (hc1 : rs.length ≤ c) : Sl w 3 (.slice a k c) k (rcs (rs.take k)) := by
  rw [← rcs_take]
  exact h.files.sl.take hk (by omega) hc

theorem drop_src {a : Option Addr} {c k : Nat} (h : RefAt w m (.slice a rs.length c) rs burns fuse dead) (hk : k ≤ rs.length) : Sl w 3 (.slice (if c = k then a else a.map (·.add (k * 3))) (rs.length - k) (c - k)) (rs.length - k) (rcs (rs.drop k)) := by
  rw [← rcs_drop]
  exact h.files.sl.drop hk

/-- What append makes is as new as what it was made of. -/
theorem app_above {B : Nat} {v4 v5 : Value} {X Y : Prop} {W : World} (h : ∀ g, own v4 = some g → B ≤ g) (hB : B ≤ W.heap.size) (h3 : own v5 = own v4 ∧ X ∨ Y ∧ own v5 = some W.heap.size) : ∀ g, own v5 = some g → B ≤ g := by
  intro g hg
  rcases h3 with ⟨h3, _⟩ | ⟨_, h3⟩
  · exact h g (h3 ▸ hg)
  · rw [h3] at hg; cases hg; exact hB

/-- What set makes of a new file. -/
def SetNew (w : World) (m : Nat) (v : Value) (rs : List RF) (burns : Bool) (fuse : Int) (dead : Bool) (name : ByteArray) (l : List UInt8) (sure : Nat) (e : Ending) (w' : World) : Prop :=
  e = .returned (.int .i64 0) ∧ ∃ sl k v' fuse', RefAt w' m v' (rs.take k ++ [⟨name, sl, l, sure⟩] ++ rs.drop k) burns fuse' dead ∧ Place rs name k ∧ burned (if burns then fuse else -1) = (if burns then fuse' else -1) ∧ Keep (fun i => i = m) w w' ∧ (∀ g, own sl = some g → w.heap.size ≤ g) ∧ (∀ g, own v' = some g → w.heap.size ≤ g)

theorem rnew_close {W w6 : World} {sl v' : Value} {l : List UInt8} {name : ByteArray} {sure k : Nat} (h : RefAt W m v rs burns fuse dead) (hsl : Own W 5 1 sl l.length (bv l)) (hslm : own sl ≠ some m) (K : Keep (fun _ => False) W w6)
    (hv : Own w6 56 3 v' (k + 1 + (rs.length - k)) (rcs (rs.take k ++ [⟨name, sl, l, sure⟩] ++ rs.drop k))) (hab : ∀ g, own v' = some g → W.heap.size ≤ g) (hk : k ≤ rs.length) (h16 : rs.length < 16) (hs : sure ≤ l.length) (hl : l.length ≤ 1048576) :
    RefAt (w6.setCell ⟨m, 0, none⟩ v') m v' (rs.take k ++ [⟨name, sl, l, sure⟩] ++ rs.drop k) burns fuse dead := by
  have h6 := h.keep K (fun _ _ h => h)
  have hm := lt_of_heap h.disk
  have hK : Keep (fun i => i = m) w6 (w6.setCell ⟨m, 0, none⟩ v') := (Keep.refl (fun i => i = m) w6).setCell ⟨m, 0, none⟩ _ (.inr rfl)
  have hlen : (rs.take k ++ [(⟨name, sl, l, sure⟩ : RF)] ++ rs.drop k).length = k + 1 + (rs.length - k) := by simp; omega
  have hmem : ∀ r, r ∈ rs.take k ++ [(⟨name, sl, l, sure⟩ : RF)] ++ rs.drop k → r ∈ rs ∨ r = ⟨name, sl, l, sure⟩ := by
    intro r hr
    simp only [List.mem_append, List.mem_singleton] at hr
    rcases hr with (hr | hr) | hr
    · exact .inl (List.mem_of_mem_take hr)
    · exact .inr hr
    · exact .inl (List.mem_of_mem_drop hr)
  refine ⟨setCell_at _ _ _ _ h6.disk, ?_, ?_, by rw [hlen]; omega, ?_, h.fuse0, h.fuse1⟩
  · rw [hlen]
    exact hv.keep hK (fun g hg e => by have := hab g hg; omega)
  · intro r hr
    rcases hmem r hr with hr | rfl
    · exact (h6.bytes r hr).keep hK (fun g hg e => h6.sl_m hr (e ▸ hg))
    · exact (hsl.keep K (fun _ _ h => h)).keep hK (fun g hg e => hslm (e ▸ hg))
  · intro r hr
    rcases hmem r hr with hr | rfl
    · exact h.sizes r hr
    · exact ⟨hs, hl⟩

set_option maxHeartbeats 2000000 in
theorem rset_new (h : RefAt w m v rs burns fuse dead) (name : ByteArray) (b : Value) (l : List UInt8) (hS : Sl w 1 b l.length (bv l)) (hbm : blk b = some m → l = []) (sure : Nat) (hsure : sure ≤ l.length) (hbig : l.length ≤ 1048576) (hz : (if burns then fuse else -1) ≠ 0) (hat : atM name rs = -1) (h16 : rs.length < 16) :
    Calls Try.prog 42 #[.pointer (some ⟨m, 0, none⟩), .string name, b, .int .i64 sure] w (SetNew w m v rs burns fuse dead name l sure) := by
  obtain ⟨a, c, rfl⟩ := hS.form
  have hA := Lib.hid (rat_any h name)
  rw [hat] at hA
  have hB := Lib.hid (burn_go h hz)
  have HMW := Lib.hid (lt_of_heap h.disk)
  obtain ⟨av, cv, hv⟩ := h.files.form
  subst hv
  have h0 := h.c0
  have HS := Lib.hid hS
  have HBM := Lib.hid hbm
  have hcv : rs.length ≤ cv ∧ cv ≤ maxLen := by
    obtain ⟨_, _, _, e, q1, q2, _⟩ := h.files
    cases e
    exact ⟨q1, q2⟩
  have hcv1 := hcv.1
  have HCV := Lib.hid hcv.2
  clear h hS hz hat hbm hcv
  go_enter Try.func42, Try.ntmps42
  go_wp2_with (first | (go_at_call 41; refine hA.out.mono ?_; rintro e w' ⟨rfl, rfl⟩) | (go_at_call 44; refine hB.out.mono ?_; rintro e w1 ⟨rfl, fuse', k1, k2, k3⟩; have K1 := Lib.hid k1; have K2 := Lib.hid k2; have K3 := Lib.hid k3; clear k1 k2 k3) | (at_builtin; refine wpList_appB _ rfl (.const (.slice none 0 0)) (.tmp 35) rfl (.slice none 0 0) (.slice a l.length c) [] l rfl rfl (Own.nil _ _ _) (HS.out.keepB K3.out HBM.out) (by simp; omega) ?_; intro a' c' w2 j1 j2 j3; simp only [List.nil_append] at j1 j3 ⊢; have hk2 : Hid (RefAt w2 m (.slice av rs.length cv) rs burns fuse' dead) := K1.out.keep j2 (fun _ _ e => by simp [own] at e); have J1 := Lib.hid j1; have J2 := Lib.hid j2; have J3 := Lib.hid j3; clear j1 j2 j3))
  have HK3 : Hid (Keep (fun _ => False) w2 (w2.alloc (.cells #[.string name, .slice a' l.length c', .int .i64 sure] 56))) := (Keep.refl _ _).alloc _
  have HB3 : Hid ((w2.alloc (.cells #[.string name, .slice a' l.length c', .int .i64 sure] 56)).heap[w2.heap.size]? = some (.cells #[.string name, .slice a' l.length c', .int .i64 sure] 56 (0, 0))) := alloc_new w2 _
  have HR3 : Hid (RefAt (w2.alloc (.cells #[.string name, .slice a' l.length c', .int .i64 sure] 56)) m (.slice av rs.length cv) rs burns fuse' dead) := hk2.out.keep HK3.out (fun _ _ h => h)
  have HJ1 : Hid (Own (w2.alloc (.cells #[.string name, .slice a' l.length c', .int .i64 sure] 56)) 5 1 (.slice a' l.length c') l.length (bv l)) := J1.out.keep HK3.out (fun _ _ h => h)
  generalize hW3 : w2.alloc (.cells #[.string name, .slice a' l.length c', .int .i64 sure] 56) = W3 at *
  have HW3 := Lib.hid hW3
  clear hW3
  generalize hN : w2.heap.size = N at *
  have HN := Lib.hid hN
  clear hN
  have y0 := HR3.out.c0
  have HKW : Hid (Keep (fun i => i = m) w W3) := Lib.hid ((K3.out.trans' J2.out (fun _ _ h => h) (fun _ _ e => by simp [own] at e)).trans' HK3.out (fun _ _ h => h) (fun _ _ h => h.elim))
  have HSF : Hid (∀ g, own (.slice a' l.length c') = some g → w.heap.size ≤ g) := Lib.hid (app_above (fun g h => by simp [own] at h) K3.out.size J3.out)
  have HSM : Hid (own (.slice a' l.length c') ≠ some m) := Lib.hid (fun e => by have := HSF.out m e; have := HMW.out; omega)
  go_loop [11] (fun i => ∃ k : Nat, k ≤ rs.length ∧ i = .int .i64 k ∧ ∀ j (hj : j < rs.length), j < k → lt rs[j].name name) (fun i => rs.length - (intOf i).toNat)
  case atStart => exact ⟨0, Nat.zero_le _, rfl, fun j _ hj => by omega⟩
  case round =>
    obtain ⟨k, hk, rfl, hn⟩ := hrel
    have HNN := Lib.hid hn
    clear hn
    by_cases hlt : k < rs.length
    · obtain ⟨g, c'', hv', q0, q1, q2, q3, q4, q5, q6⟩ := HR3.out.at hlt
      obtain ⟨rfl, rfl⟩ : av = some ⟨g, 0, none⟩ ∧ cv = c'' := by cases hv'; exact ⟨rfl, rfl⟩
      clear q1 q2 q3 q4 q5 q6 hv'
      obtain ⟨nm, hnm⟩ : ∃ nm, rs[k].name = nm := ⟨_, rfl⟩
      rw [hnm] at q0
      have HM := Lib.hid hnm
      clear hnm
      by_cases he : lt nm name
      · have hb : Op.bytesLess nm.toList name.toList = true := by rw [bytesLess_eq]; simpa [lt] using he
        go_wp2
        go_round
        case rel => exact ⟨k + 1, by omega, by go_num, fun j hj hjk => by
          by_cases e : j = k
          · subst e; rw [HM.out]; exact he
          · exact HNN.out j hj (by omega)⟩
        case measure => simp [intOf]; omega
      · have hb : Op.bytesLess nm.toList name.toList = false := by rw [bytesLess_eq]; simpa [lt] using he
        have HPL : Hid (Place rs name k) := ⟨by omega, HNN.out, fun h => by rw [HM.out]; exact he⟩
        have kcv : ¬ cv = k := by omega
        go_wp2_with (at_builtin; go_loud (first
          | (refine wpList_appF _ rfl (.tmp 69) (.tmp 75) rfl (.slice none 0 0) (.slice (some ⟨g, 0, none⟩) k cv) [] (rs.take k) k 0 rfl (by simp [Act.eval]) (Own.nil _ _ _) (take_src HR3.out hk HCV.out hcv1) (rcs_one (fun r hr => HR3.out.bytes r (List.mem_of_mem_take hr))) (by omega) ?_; intro a4 c4 w4 p1 p2 p3; simp only [List.nil_append, Nat.zero_add] at p1 p3 ⊢; have A4 := Lib.hid (app_above (B := W3.heap.size) (fun g h => by simp [own] at h) (Nat.le_refl _) p3); have K4 : Hid (Keep (fun _ => False) W3 w4) := Lib.hid (p2.mono (fun i _ h => by simp [own] at h)); have P1 := Lib.hid p1; have HB4 := Lib.hid (K4.out.obj HB3.out (fun h => h)); have b0 := cell_of HB4.out 0; have b1 := cell_of HB4.out 1; have b2 := cell_of HB4.out 2; clear p1 p2 p3)
          | (refine wpList_appF _ rfl (.tmp 77) (.tmp 79) rfl (.slice a4 k c4) _ (rs.take k) [⟨name, .slice a' l.length c', l, sure⟩] 1 k rfl rfl (P1.out.keep ((Keep.refl (fun _ => False) _).alloc _) (fun _ _ h => h)) (Sl.ofBlock (alloc_new w4 _) rfl (Nat.le_refl _) (by unfold maxLen; omega)) (by intro u hu; simp [rcs, rc] at hu; rcases hu with rfl | rfl | rfl <;> rfl) (by omega) ?_; intro a5 c5 w5 p1 p2 p3; have P4 := Lib.hid p1; have A5 := Lib.hid (app_above A4.out (Nat.le_trans K4.out.size ((Keep.refl (fun _ => False) w4).alloc _).size) p3); have K5 : Hid (Keep (fun _ => False) W3 w5) := Lib.hid ((K4.out.alloc _).trans' p2 (fun _ _ h => h) (fun i h e => by have := A4.out i e.1; omega)); have e0 := (HR3.out.keep K5.out (fun _ _ h => h)).c0; clear p1 p2 p3)
          | (refine wpList_appF _ rfl (.tmp 82) (.tmp 88) rfl (.slice a5 (k + 1) c5) (.slice (if cv = k then (some ⟨g, 0, none⟩) else ((some ⟨g, 0, none⟩) : Option Addr).map (·.add (k * 3))) (rs.length - k) (cv - k)) (rs.take k ++ [⟨name, .slice a' l.length c', l, sure⟩]) (rs.drop k) (rs.length - k) (k + 1) rfl (by simp [Act.eval, kcv, Addr.add]) P4.out (drop_src (HR3.out.keep K5.out (fun _ _ h => h)) hk) (rcs_one (fun r hr => (HR3.out.keep K5.out (fun _ _ h => h)).bytes r (List.mem_of_mem_drop hr))) (by omega) ?_; intro a6 c6 w6 p1 p2 p3; have P7 := Lib.hid p1; have A6 := Lib.hid (app_above A5.out K5.out.size p3); have K6 : Hid (Keep (fun _ => False) W3 w6) := Lib.hid (K5.out.trans' p2 (fun _ _ h => h) (fun i h e => by have := A5.out i e.1; omega)); have g0 := (HR3.out.keep K6.out (fun _ _ h => h)).c0; have g1 := free_of (HR3.out.keep K6.out (fun _ _ h => h)).disk 0; clear p1 p2 p3)))
        all_goals (go_ret; exact ⟨rfl, _, k, _, fuse', rnew_close HR3.out HJ1.out HSM.out K6.out P7.out A6.out hk h16 hsure hbig, HPL.out, K2.out, (HKW.out.trans' K6.out (fun _ _ h => h) (fun _ _ h => h.elim)).setCell ⟨m, 0, none⟩ _ (.inr rfl), HSF.out, fun g hg => Nat.le_trans HKW.out.size (A6.out g hg)⟩)
    · have HPL : Hid (Place rs name k) := ⟨by omega, HNN.out, fun h => absurd h hlt⟩
      go_wp2_with (at_builtin; go_loud (first
        | (refine wpList_appF _ rfl (.tmp 69) (.tmp 75) rfl (.slice none 0 0) (.slice av k cv) [] (rs.take k) k 0 rfl (by simp [Act.eval]) (Own.nil _ _ _) (take_src HR3.out hk HCV.out hcv1) (rcs_one (fun r hr => HR3.out.bytes r (List.mem_of_mem_take hr))) (by omega) ?_; intro a4 c4 w4 p1 p2 p3; simp only [List.nil_append, Nat.zero_add] at p1 p3 ⊢; have A4 := Lib.hid (app_above (B := W3.heap.size) (fun g h => by simp [own] at h) (Nat.le_refl _) p3); have K4 : Hid (Keep (fun _ => False) W3 w4) := Lib.hid (p2.mono (fun i _ h => by simp [own] at h)); have P1 := Lib.hid p1; have HB4 := Lib.hid (K4.out.obj HB3.out (fun h => h)); have b0 := cell_of HB4.out 0; have b1 := cell_of HB4.out 1; have b2 := cell_of HB4.out 2; clear p1 p2 p3)
        | (refine wpList_appF _ rfl (.tmp 77) (.tmp 79) rfl (.slice a4 k c4) _ (rs.take k) [⟨name, .slice a' l.length c', l, sure⟩] 1 k rfl rfl (P1.out.keep ((Keep.refl (fun _ => False) _).alloc _) (fun _ _ h => h)) (Sl.ofBlock (alloc_new w4 _) rfl (Nat.le_refl _) (by unfold maxLen; omega)) (by intro u hu; simp [rcs, rc] at hu; rcases hu with rfl | rfl | rfl <;> rfl) (by omega) ?_; intro a5 c5 w5 p1 p2 p3; have P4 := Lib.hid p1; have A5 := Lib.hid (app_above A4.out (Nat.le_trans K4.out.size ((Keep.refl (fun _ => False) w4).alloc _).size) p3); have K5 : Hid (Keep (fun _ => False) W3 w5) := Lib.hid ((K4.out.alloc _).trans' p2 (fun _ _ h => h) (fun i h e => by have := A4.out i e.1; omega)); have e0 := (HR3.out.keep K5.out (fun _ _ h => h)).c0; clear p1 p2 p3)
        | (refine wpList_appF _ rfl (.tmp 82) (.tmp 88) rfl (.slice a5 (k + 1) c5) (.slice (if cv = k then av else (av : Option Addr).map (·.add (k * 3))) (rs.length - k) (cv - k)) (rs.take k ++ [⟨name, .slice a' l.length c', l, sure⟩]) (rs.drop k) (rs.length - k) (k + 1) rfl (by simp [Act.eval]) P4.out (drop_src (HR3.out.keep K5.out (fun _ _ h => h)) hk) (rcs_one (fun r hr => (HR3.out.keep K5.out (fun _ _ h => h)).bytes r (List.mem_of_mem_drop hr))) (by omega) ?_; intro a6 c6 w6 p1 p2 p3; have P7 := Lib.hid p1; have A6 := Lib.hid (app_above A5.out K5.out.size p3); have K6 : Hid (Keep (fun _ => False) W3 w6) := Lib.hid (K5.out.trans' p2 (fun _ _ h => h) (fun i h e => by have := A5.out i e.1; omega)); have g0 := (HR3.out.keep K6.out (fun _ _ h => h)).c0; have g1 := free_of (HR3.out.keep K6.out (fun _ _ h => h)).disk 0; clear p1 p2 p3)))
      all_goals (go_ret; exact ⟨rfl, _, k, _, fuse', rnew_close HR3.out HJ1.out HSM.out K6.out P7.out A6.out hk h16 hsure hbig, HPL.out, K2.out, (HKW.out.trans' K6.out (fun _ _ h => h) (fun _ _ h => h.elim)).setCell ⟨m, 0, none⟩ _ (.inr rfl), HSF.out, fun g hg => Nat.le_trans HKW.out.size (A6.out g hg)⟩)
end
end Go.Proofs.Ytlnlgjifepjkbaa
