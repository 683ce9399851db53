/- The program's disk: Put, Add, Sure, Drop, Read, Fuse, Dead, New, as plain data has them. -/
import Derived.Test.YtlnlgjifepjkbaaDiskD
namespace Go.Proofs.Ytlnlgjifepjkbaa
open Go.RowKit
open Go.ChangeMaps (setBlock)
set_option maxRecDepth 20000

theorem enters_add1 : Enters 32 := fun args w => by simp [go_sem]
theorem enters_sure1 : Enters 33 := fun args w => by simp [go_sem]
theorem enters_put1 : Enters 38 := fun args w => by simp [go_sem]
theorem enters_drop1 : Enters 43 := fun args w => by simp [go_sem]

section
variable {bd : Nat} {w : World} {S : Nat → Prop} {d : D}

theorem Next.ofKeep {w1 w' : World} {d' : D} (k : Keep (fun _ => False) w w1) (h : Next w1 w' bd S d') : Next w w' bd S d' := by
  obtain ⟨S', h1, h2, h3⟩ := h
  exact ⟨S', h1, k.trans' h2 (fun _ _ h => h.elim) (fun _ _ h => h), fun i hi => (h3 i hi).imp id (fun h => Nat.le_trans k.size h)⟩

/-- What a doing answers, under one name. -/
def Did (w : World) (bd : Nat) (S : Nat → Prop) (r : D × Int) (e : Ending) (w' : World) : Prop := e = .returned (.int .i64 r.2) ∧ Next w w' bd S r.1

theorem put_abs (h : IsDisk w bd S d) (name : ByteArray) (v : Value) (l : List UInt8) (hS : Sl w 1 v l.length (bv l)) (hb : ∀ g, blk v = some g → ¬ S g) (hl : l.length ≤ 9223372036854775807) :
    Calls Try.prog 14 #[.pointer (some ⟨bd, 0, none⟩), .string name, v] w (Did w bd S (putM d name l)) := by
  obtain ⟨a, c, rfl⟩ := hS.form
  have hk : Keep (fun _ => False) w (w.alloc (.cells #[.slice a l.length c] 32)) := (Keep.refl _ _).alloc _
  have h' : IsDisk (w.alloc (.cells #[.slice a l.length c] 32)) bd S d := h.keep hk (fun _ _ h => h)
  have HP := Lib.hid (does_abs h' (cap := #[.pointer (some ⟨w.heap.size, 0, none⟩)]) enters_put1 name l.length true (fun f => some { f with b := l, sure := l.length }) (fun w1 f hF hn k1 hf hs => by
    refine (put1 hF w.heap.size l (.slice a l.length c) (k1.obj (alloc_new w _) (fun e => by have := h.lt e; omega)) ((hS.keep hk (fun _ _ h => h)).keep k1 hb) (by unfold maxFile; omega)).mono ?_
    rintro e w2 ⟨rfl, sl, ht⟩
    exact ⟨rfl, _, ht, rfl⟩))
  clear h h' hS hb
  go_enter Try.func14, Try.ntmps14
  go_wp2_with (go_at_call 30; refine HP.out.mono ?_; rintro e w1 ⟨rfl, k⟩; have K := Lib.hid k; clear k)
  go_ret
  exact ⟨rfl, K.out.ofKeep hk⟩

theorem sure_abs (h : IsDisk w bd S d) (name : ByteArray) :
    Calls Try.prog 10 #[.pointer (some ⟨bd, 0, none⟩), .string name] w (Did w bd S (sureM d name)) := by
  have HP := Lib.hid (does_abs h (cap := #[]) enters_sure1 name 0 false (fun f => some { f with sure := f.b.length }) (fun w1 f hF hn k1 hf hs => by
    refine (sure1 hF).mono ?_
    rintro e w2 ⟨rfl, ht⟩
    exact ⟨rfl, _, ht, rfl⟩))
  clear h
  go_enter Try.func10, Try.ntmps10
  go_wp2_with (go_at_call 30; refine HP.out.mono ?_; rintro e w1 ⟨rfl, k⟩; have K := Lib.hid k; clear k)
  go_ret
  exact ⟨rfl, K.out⟩

theorem size_abs (h : IsDisk w bd S d) (name : ByteArray) :
    Calls Try.prog 31 #[.pointer (some ⟨bd, 0, none⟩), .string name] w fun e w' => e = .returned (.int .i64 (sizeM name d.fs)) ∧ w = w' := by
  obtain ⟨bm, fs, h1, hp, hs, rfl⟩ := h
  have hf := find_d hp hs name
  cases hf' : findF name fs with
  | none =>
    rw [hf'] at hf
    have : sizeM name d.fs = 0 := by simp [sizeM, hf]
    rw [this]
    exact size_none h1 hf'
  | some f =>
    rw [hf'] at hf
    have : sizeM name d.fs = f.b.length := by simp [sizeM, hf, PF.abs]
    rw [this]
    exact size_some h1 hf'
theorem D.ok.size (h : d.ok) (name : ByteArray) : sizeM name d.fs ≤ 1048576 := by
  unfold sizeM
  split
  · rename_i f hf
    exact (h.file f (findM_some hf).1).2
  · omega

set_option maxHeartbeats 1000000 in
theorem add_abs (h : IsDisk w bd S d) (name : ByteArray) (v : Value) (l : List UInt8) (hS : Sl w 1 v l.length (bv l)) (hb : ∀ g, blk v = some g → ¬ S g) (hl : l.length ≤ 140737488355328) :
    Calls Try.prog 9 #[.pointer (some ⟨bd, 0, none⟩), .string name, v] w (Did w bd S (addM d name l)) := by
  obtain ⟨a, c, rfl⟩ := hS.form
  have hk : Keep (fun _ => False) w (w.alloc (.cells #[.slice a l.length c] 32)) := (Keep.refl _ _).alloc _
  have hkd : Keep (fun _ => False) w (w.alloc (.cells #[.slice a l.length c] 32)).drew := ((Keep.refl _ _).alloc _).drew
  have h' : IsDisk (w.alloc (.cells #[.slice a l.length c] 32)).drew bd S d := h.keep hkd (fun _ _ h => h)
  have hsz := h.ok.size name
  have HP := Lib.hid (does_abs h' (cap := #[.pointer (some ⟨w.heap.size, 0, none⟩)]) enters_add1 name (sizeM name d.fs + l.length) true (fun f => some { f with b := f.b ++ l }) (fun w1 f hF hn k1 hf hs => by
    have hfl : f.b.length = sizeM name d.fs := by
      rcases hf with hf | ⟨hf, e⟩
      · simp [sizeM, hf, PF.abs]
      · simp only [PF.abs, F.mk.injEq] at e
        simp [sizeM, hf, e.2.1]
    refine (add1 hF w.heap.size l (.slice a l.length c) (k1.obj (alloc_new w _) (fun e => by have := h.lt e; omega)) ((hS.keep hkd (fun _ _ h => h)).keep k1 hb) (by unfold maxFile; omega)).mono ?_
    rintro e w2 ⟨rfl, sl, ht⟩
    exact ⟨rfl, _, ht, rfl⟩))
  have HZ := Lib.hid (size_abs h' name)
  have hsz' : (0 : Int) ≤ sizeM name d.fs ∧ (sizeM name d.fs : Int) ≤ 1048576 := by omega
  obtain ⟨z, hz⟩ : ∃ z : Int, (sizeM name d.fs : Int) = z := ⟨_, rfl⟩
  have HA : Hid (addM d name l = doM d name (sizeM name d.fs + l.length) true fun f => some { f with b := f.b ++ l }) := rfl
  rw [hz] at hsz' HP HZ HA
  obtain ⟨hz0, hz1⟩ := hsz'
  have hw : IntKind.i64.wrap (z + (l.length : Int)) = z + l.length := IntWalk.i64_in _ (by omega)
  have HK : Hid (∀ w1 d', Next (w.alloc (.cells #[.slice a l.length c] 32)).drew w1 bd S d' → w1.cell? ⟨w.heap.size, 0, none⟩ = some (.slice a l.length c)) := by
    rintro w1 d' ⟨S', q1, q2, q3⟩
    refine q2.cell ?_ (fun e => by have := h.lt e; simp at this)
    show (w.alloc (.cells #[.slice a l.length c] 32)).cell? ⟨w.heap.size, 0, none⟩ = _
    rw [cell_of (alloc_new w _)]
    rfl
  clear h h' hS hb hz hsz
  go_enter Try.func9, Try.ntmps9
  go_wp2
  go_region_held3 (fun w' => w'.cell? ⟨w.heap.size, 0, none⟩ = some (.slice a l.length c)) (first | exact HK.out _ _ K.out | go_keep | (simp [go_sem])) (first | (go_at_call 31; refine HZ.out.mono ?_; rintro e w1 ⟨rfl, rfl⟩) | (go_at_call 30; refine HP.out.mono ?_; rintro e w1 ⟨rfl, k⟩; have K := Lib.hid k; clear k))
  all_goals
    go_wp2
    go_ret
    rw [HA.out]
    exact ⟨rfl, K.out.ofKeep hkd⟩

theorem drop_abs (h : IsDisk w bd S d) (name : ByteArray) :
    Calls Try.prog 20 #[.pointer (some ⟨bd, 0, none⟩), .string name] w (Did w bd S (dropM d name)) := by
  have hk : Keep (fun _ => False) w (w.alloc (.cells #[.pointer (some ⟨bd, 0, none⟩)] 25)) := (Keep.refl _ _).alloc _
  have h' : IsDisk (w.alloc (.cells #[.pointer (some ⟨bd, 0, none⟩)] 25)) bd S d := h.keep hk (fun _ _ h => h)
  have hlt := fun k (hk : S k) => h.lt hk
  have HP : Hid (Calls Try.prog 30 #[.pointer (some ⟨bd, 0, none⟩), .string name, .int .i64 0, .bool false, .func (.func 43) #[] #[.pointer (some ⟨w.heap.size, 0, none⟩)]] (w.alloc (.cells #[.pointer (some ⟨bd, 0, none⟩)] 25)) (Did (w.alloc (.cells #[.pointer (some ⟨bd, 0, none⟩)] 25)) bd S (dropM d name))) := by
    have hb := alloc_new w (.cells #[.pointer (some ⟨bd, 0, none⟩)] 25)
    have HH := h'
    clear h
    generalize w.alloc (.cells #[.pointer (some ⟨bd, 0, none⟩)] 25) = W at *
    generalize w.heap.size = N at *
    obtain ⟨bm, fs, h1, hp, hs, rfl⟩ := h'
    have hah := ahead_d hp hs name 0 false
    by_cases ha : ahead fs d.dead name 0 false = 0
    · by_cases hfu : d.fuse = 0
      · have hm : dropM d name = ({ d with dead := true }, 17) := by simp [dropM, doM, hah, ha, hfu]
        rw [hm]
        have h1' : DiskAt W bd bm fs 0 d.dead := hfu ▸ h1
        refine (does_dead h1' name 0 false _ ha).mono ?_
        rintro e w' ⟨rfl, rfl⟩
        have hk : Keep (fun k => k = bd) W (W.setCell ⟨bd, 2, none⟩ (.bool true)) := (Keep.refl _ _).setCell _ _ (.inr rfl)
        refine ⟨rfl, foot bd bm fs, ⟨bm, fs, ?_, hp, hs, rfl⟩, hk.mono (fun k _ e => .inl e), fun _ h => .inl h⟩
        have := h1'.turn hk (setCell_at _ _ _ _ h1'.disk) h1'.fuse0 h1'.fuse1
        rw [hfu]
        exact this
      · have hm : dropM d name = ({ fs := turnM d.fs name (fun _ => none), fuse := burned d.fuse, dead := d.dead }, 0) := by simp [dropM, doM, hah, ha, hfu]
        rw [hm]
        cases hf : findF name fs with
        | none =>
          have := (ahead_zero ha).2.2 hf
          simp at this
        | some f =>
          have hfd : findM name d.fs = some f.abs := by rw [find_d hp hs, hf]; rfl
          have hff := findF_some hf
          refine does_found h1 enters_drop1 ha hfu hf (R := fun w' => Next W w' bd (foot bd bm fs) { fs := turnM d.fs name (fun _ => none), fuse := burned d.fuse, dead := d.dead }) ?_
          intro w1 k1 k2
          refine (drop1 k1 hff.1 N (k2.obj hb (fun e => ?_))).mono ?_
          · subst e
            rw [h1.disk] at hb
            simp at hb
          rintro e w2 ⟨rfl, g1, g2⟩
          rw [hff.2] at g1
          refine ⟨rfl, foot bd bm (fs.filter fun g => g.name ≠ name), ⟨bm, _, g1, ?_, ?_, rfl⟩, k2.trans' g2 (fun k _ e => .inl e) (fun k _ e => .inr (.inl e)), ?_⟩
          · simp only [turnM, hfd]
            have : (fs.filter fun g => g.name ≠ name).map PF.abs = delF name (fs.map PF.abs) := by
              unfold delF
              rw [List.filter_map]
              rfl
            rw [this]
            exact hp.filter _
          · simp only [turnM, hfd]
            exact delF_sorted hs
          · rintro k (e | e | ⟨g, hg, e⟩)
            · exact .inl (.inl e)
            · exact .inl (.inr (.inl e))
            · exact .inl (.inr (.inr ⟨g, (List.mem_filter.1 hg).1, e⟩))
    · have hm : dropM d name = (d, ahead fs d.dead name 0 false) := by simp [dropM, doM, hah, ha]
      rw [hm]
      refine (does_ahead h1 name 0 false _ ha).mono ?_
      rintro e w' ⟨rfl, rfl⟩
      exact ⟨rfl, Next.refl HH⟩
  clear h h' hlt
  go_enter Try.func20, Try.ntmps20
  go_wp2_with (go_at_call 30; refine HP.out.mono ?_; rintro e w1 ⟨rfl, k⟩; have K := Lib.hid k; clear k)
  go_ret
  exact ⟨rfl, K.out.ofKeep hk⟩

/-- What Read answers: bytes in new memory, and the error's number. -/
def ReadPost (w : World) (r : List UInt8 × Int) (e : Ending) (w' : World) : Prop :=
  ∃ a, e = .returned (.tuple #[.slice a r.1.length r.1.length, .int .i64 r.2]) ∧ Own w' 5 1 (.slice a r.1.length r.1.length) r.1.length (bv r.1) ∧ Keep (fun _ => False) w w' ∧ ∀ g, blk (.slice a r.1.length r.1.length) = some g → w.heap.size ≤ g

theorem read_abs (h : IsDisk w bd S d) (name : ByteArray) :
    Calls Try.prog 12 #[.pointer (some ⟨bd, 0, none⟩), .string name] w (ReadPost w (readM d name)) := by
  have hmax := h.ok
  obtain ⟨bm, fs, h1, hp, hs, rfl⟩ := h
  have ha := asked_any h1 name
  have h0 := h1.c0
  rcases asked_split d.dead name with e0 | e0 | e0
  · have hm : readM d name = ([], 17) := by simp [readM, e0]
    rw [e0] at ha
    have HA := Lib.hid ha
    have HM := Lib.hid hm
    clear ha hm e0 hp hs h1 hmax
    go_enter Try.func12, Try.ntmps12
    go_wp2_with (go_at_call 35; refine HA.out.mono ?_; rintro e w' ⟨rfl, rfl⟩)
    go_ret2
    rw [HM.out]
    exact ⟨none, rfl, Own.nil _ _ _, Keep.refl _ _, by simp [blk]⟩
  · have hm : readM d name = ([], 1) := by simp [readM, e0]
    rw [e0] at ha
    have HA := Lib.hid ha
    have HM := Lib.hid hm
    clear ha hm e0 hp hs h1 hmax
    go_enter Try.func12, Try.ntmps12
    go_wp2_with (go_at_call 35; refine HA.out.mono ?_; rintro e w' ⟨rfl, rfl⟩)
    go_ret2
    rw [HM.out]
    exact ⟨none, rfl, Own.nil _ _ _, Keep.refl _ _, by simp [blk]⟩
  · have hfd := find_d hp hs name
    rw [e0] at ha
    have HA := Lib.hid ha
    cases hf : findF name fs with
    | none =>
      have hm : readM d name = ([], 7) := by rw [hf] at hfd; simp [readM, e0, hfd]
      have HM := Lib.hid hm
      have hl := look_none h1 hf
      clear ha hm e0 hp hs h1 hf hfd hmax
      go_enter Try.func12, Try.ntmps12
      go_wp2_with (go_at_call 35; refine HA.out.mono ?_; rintro e w' ⟨rfl, rfl⟩)
      go_ret2
      rw [HM.out]
      exact ⟨none, rfl, Own.nil _ _ _, Keep.refl _ _, by simp [blk]⟩
    | some f =>
      have hm : readM d name = (f.b, 0) := by rw [hf] at hfd; simp [readM, e0, hfd, PF.abs]
      have HM := Lib.hid hm
      have hl := look_some h1 hf
      have hF := h1.file f (findF_some hf).1
      obtain ⟨a, c, hv⟩ := hF.bytes.form
      have hc : w.cell? ⟨f.blk, 0, none⟩ = some (.slice a f.b.length c) := by rw [cell_of hF.cells, ← hv]; rfl
      have hlen : f.b.length ≤ 140737488355328 := by have := hF.most; unfold maxFile at this; omega
      have HC := Lib.hid (cloneB (.slice a f.b.length c) f.b w (hv ▸ hF.bytes.sl) hlen)
      clear ha hm e0 hp hs h1 hf hfd hF hv hmax
      go_enter Try.func12, Try.ntmps12
      go_wp2_with (first | (go_at_call 35; refine HA.out.mono ?_; rintro e w' ⟨rfl, rfl⟩) | (go_at_call 37; refine HC.out.mono ?_; rintro e w1 ⟨a', c', rfl, k1, k2, k3⟩; have K1 := Lib.hid k1; have K2 := Lib.hid k2; have K3 := Lib.hid k3; have hlc : f.b.length ≤ c' ∧ c' ≤ maxLen := (by obtain ⟨_, _, _, e, h1, h2, _⟩ := k1; cases e; exact ⟨h1, h2⟩); clear k1 k2 k3) | (go_at_call 36; refine (clipB _ _ _ _ hlc.1 hlc.2).mono ?_; rintro e w2 ⟨rfl, rfl⟩))
      go_ret2
      rw [HM.out]
      refine ⟨a', rfl, K1.out.clip, K2.out, fun g hg => K3.out g ?_⟩
      cases a' with
      | none => simp [blk] at hg
      | some ad => simpa [blk] using hg
end
end Go.Proofs.Ytlnlgjifepjkbaa
