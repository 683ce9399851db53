/- The program's disk: does. -/
import Derived.Test.YtlnlgjifepjkbaaDiskB
namespace Go.Proofs.Ytlnlgjifepjkbaa
open Go.RowKit
open Go.ChangeMaps (setBlock)
set_option maxRecDepth 20000

section
variable {bd bm : Nat} {fs : List PF} {fuse : Int} {dead : Bool} {w : World}

theorem len_map (h : DiskAt w bd bm fs fuse dead) (ty : TypeId) : (Builtin.len_ #[44] ty #[.map (some bm)]).run Try.prog w = .ok (.int .i64 fs.length) w := by
  obtain ⟨es, clock, hm, hM⟩ := h.map
  have hlen : es.size = fs.length := by have := hM.size; simpa using this
  simp [Builtin.len_, run_underlying Try.underlying44, MapKept.run_getObj_map hm, Result.andThen, goInt, hlen]

/-- What ends a doing ahead of the fuse. -/
def ahead (fs : List PF) (dead : Bool) (name : ByteArray) (size : Int) (made : Bool) : Int :=
  if askedE dead name ≠ 0 then askedE dead name
  else if findF name fs = none ∧ made = false then 7
  else if 1048576 < size ∨ findF name fs = none ∧ 16 ≤ fs.length then 3
  else 0

set_option maxHeartbeats 2000000 in
theorem does_ahead (h : DiskAt w bd bm fs fuse dead) (name : ByteArray) (size : Int) (made : Bool) (how : Value) (hne : ahead fs dead name size made ≠ 0) :
    Calls Try.prog 30 #[.pointer (some ⟨bd, 0, none⟩), .string name, .int .i64 size, .bool made, how] w fun e w' => e = .returned (.int .i64 (ahead fs dead name size made)) ∧ w = w' := by
  have ha := asked_any h name
  have h0 := h.c0
  have hml := len_map h 3
  rcases asked_split dead name with e0 | e0 | e0
  · rw [e0] at ha
    have he : ahead fs dead name size made = 17 := by simp [ahead, e0]
    have HE := Lib.hid he
    have HA := Lib.hid ha
    clear h he e0 ha hne
    go_enter Try.func30, Try.ntmps30
    go_wp2_with (go_at_call 35; refine HA.out.mono ?_; rintro e w' ⟨rfl, rfl⟩)
    go_ret
    exact ⟨by rw [HE.out]; rfl, rfl⟩
  · rw [e0] at ha
    have he : ahead fs dead name size made = 1 := by simp [ahead, e0]
    have HE := Lib.hid he
    have HA := Lib.hid ha
    clear h he e0 ha hne
    go_enter Try.func30, Try.ntmps30
    go_wp2_with (go_at_call 35; refine HA.out.mono ?_; rintro e w' ⟨rfl, rfl⟩)
    go_ret
    exact ⟨by rw [HE.out]; rfl, rfl⟩
  · rw [e0] at ha
    cases hf : findF name fs with
    | none =>
      have hl := look_none h hf
      cases made with
      | false =>
        have he : ahead fs dead name size false = 7 := by simp [ahead, e0, hf]
        have HE := Lib.hid he
        have HA := Lib.hid ha
        clear h he e0 hf ha hne
        go_enter Try.func30, Try.ntmps30
        go_wp2_with (go_at_call 35; refine HA.out.mono ?_; rintro e w' ⟨rfl, rfl⟩)
        go_ret
        exact ⟨by rw [HE.out]; rfl, rfl⟩
      | true =>
        by_cases hs : 1048576 < size
        · have he : ahead fs dead name size true = 3 := by simp [ahead, e0, hf, hs]
          have HE := Lib.hid he
          have HA := Lib.hid ha
          clear h he e0 hf ha hne
          go_enter Try.func30, Try.ntmps30
          go_wp2_with (go_at_call 35; refine HA.out.mono ?_; rintro e w' ⟨rfl, rfl⟩)
          go_ret
          exact ⟨by rw [HE.out]; rfl, rfl⟩
        · have h16 : 16 ≤ fs.length := by
            rcases Nat.lt_or_ge fs.length 16 with h16 | h16
            · exact absurd (by simp [ahead, e0, hf, hs]; omega) hne
            · exact h16
          have he : ahead fs dead name size true = 3 := by simp [ahead, e0, hf, hs, h16]
          have HE := Lib.hid he
          have HA := Lib.hid ha
          clear h he e0 hf ha hne
          go_enter Try.func30, Try.ntmps30
          go_wp2_with (go_at_call 35; refine HA.out.mono ?_; rintro e w' ⟨rfl, rfl⟩)
          go_ret
          exact ⟨by rw [HE.out]; rfl, rfl⟩
    | some f =>
      have hl := look_some h hf
      have hs : 1048576 < size := by
        apply Classical.byContradiction
        intro hs
        exact hne (by simp [ahead, e0, hf, hs])
      have he : ahead fs dead name size made = 3 := by simp [ahead, e0, hf, hs]
      have HE := Lib.hid he
      have HA := Lib.hid ha
      clear h he e0 hf ha hne
      go_enter Try.func30, Try.ntmps30
      go_wp2_with (go_at_call 35; refine HA.out.mono ?_; rintro e w' ⟨rfl, rfl⟩)
      go_ret
      exact ⟨by rw [HE.out]; rfl, rfl⟩

theorem DiskAt.bd_bm (h : DiskAt w bd bm fs fuse dead) : bd ≠ bm := fun e => by
  obtain ⟨es, clock, hm, _⟩ := h.map
  have := h.disk
  rw [e, hm] at this
  cases this
theorem DiskAt.blk_bd (h : DiskAt w bd bm fs fuse dead) {f : PF} (hf : f ∈ fs) : f.blk ≠ bd := fun e => by
  have := (h.file f hf).cells
  rw [e, h.disk] at this
  simp at this
theorem DiskAt.blk_bm (h : DiskAt w bd bm fs fuse dead) {f : PF} (hf : f ∈ fs) : f.blk ≠ bm := fun e => by
  obtain ⟨es, clock, hm, _⟩ := h.map
  have := (h.file f hf).cells
  rw [e, hm] at this
  cases this
theorem DiskAt.own_bd (h : DiskAt w bd bm fs fuse dead) {f : PF} (hf : f ∈ fs) : own f.sl ≠ some bd := fun e => by
  obtain ⟨cur, hc⟩ := (h.file f hf).bytes.elem e
  rw [h.disk] at hc
  simp at hc
theorem DiskAt.own_bm (h : DiskAt w bd bm fs fuse dead) {f : PF} (hf : f ∈ fs) : own f.sl ≠ some bm := fun e => by
  obtain ⟨es, clock, hm, _⟩ := h.map
  obtain ⟨cur, hc⟩ := (h.file f hf).bytes.elem e
  rw [hm] at hc
  cases hc
theorem DiskAt.own_blk (h : DiskAt w bd bm fs fuse dead) {f g : PF} (hf : f ∈ fs) (hg : g ∈ fs) : own f.sl ≠ some g.blk := fun e => by
  obtain ⟨cur, hc⟩ := (h.file f hf).bytes.elem e
  rw [(h.file g hg).cells] at hc
  simp at hc
theorem FileAt.keep {w w' : World} {S : Nat → Prop} {f : PF} (h : FileAt w f) (k : Keep S w w') (h1 : ¬ S f.blk) (h2 : ∀ g, own f.sl = some g → ¬ S g) : FileAt w' f :=
  ⟨k.obj h.cells h1, h.bytes.keep k h2, h.sure, h.most⟩

/-- The disk's own block is turned, nothing else. -/
theorem DiskAt.turn {w' : World} {fuse' : Int} {dead' : Bool} (h : DiskAt w bd bm fs fuse dead) (k : Keep (fun k => k = bd) w w') (hd : w'.heap[bd]? = some (.cells #[.map (some bm), .int .i64 fuse', .bool dead'] 46 (0, 0))) (h0 : -1 ≤ fuse') (h1 : fuse' ≤ 9223372036854775807) :
    DiskAt w' bd bm fs fuse' dead' := by
  obtain ⟨es, clock, hm, hM⟩ := h.map
  exact ⟨hd, ⟨es, clock, k.obj hm (fun e => h.bd_bm e.symm), hM⟩, fun f hf => (h.file f hf).keep k (h.blk_bd hf) (fun g hg e => h.own_bd hf (e ▸ hg)), h.sep, h.few, h0, h1⟩
theorem DiskAt.keep {w' : World} {S : Nat → Prop} (h : DiskAt w bd bm fs fuse dead) (k : Keep S w w') (hS : ∀ i, foot bd bm fs i → ¬ S i) : DiskAt w' bd bm fs fuse dead := by
  obtain ⟨es, clock, hm, hM⟩ := h.map
  exact ⟨k.obj h.disk (hS _ (.inl rfl)), ⟨es, clock, k.obj hm (hS _ (.inr (.inl rfl))), hM⟩, fun f hf => (h.file f hf).keep k (hS _ (.inr (.inr ⟨f, hf, .inl rfl⟩))) (fun g hg => hS _ (.inr (.inr ⟨f, hf, .inr hg⟩))), h.sep, h.few, h.fuse0, h.fuse1⟩

theorem burns_go (h : DiskAt w bd bm fs fuse dead) (hz : fuse ≠ 0) :
    Calls Try.prog 50 #[.pointer (some ⟨bd, 0, none⟩)] w fun e w' => e = .returned (.int .i64 0) ∧ DiskAt w' bd bm fs (burned fuse) dead ∧ Keep (fun k => k = bd) w w' ∧ w'.heap.size = w.heap.size := by
  by_cases hp : 0 < fuse
  · refine (burns_some h hp).mono ?_
    rintro e w' ⟨rfl, rfl⟩
    have hk : Keep (fun k => k = bd) w (w.setCell ⟨bd, 1, none⟩ (.int .i64 (fuse - 1))) := (Keep.refl _ _).setCell _ _ (.inr rfl)
    refine ⟨rfl, ?_, hk, by simp⟩
    have := h.fuse1
    rw [burned, if_pos hp]
    exact h.turn hk (setCell_at _ _ _ _ h.disk) (by omega) (by omega)
  · refine (burns_none h (by omega)).mono ?_
    rintro e w' ⟨rfl, rfl⟩
    exact ⟨rfl, by rw [burned, if_neg hp]; exact h, Keep.refl _ _, rfl⟩
theorem ahead_zero {name : ByteArray} {size : Int} {made : Bool} (h : ahead fs dead name size made = 0) :
    askedE dead name = 0 ∧ size ≤ 1048576 ∧ (findF name fs = none → made = true ∧ fs.length < 16) := by
  unfold ahead at h
  split at h
  · rename_i h1; exact absurd h h1
  · rename_i h1
    split at h
    · cases h
    · rename_i h2
      split at h
      · cases h
      · rename_i h3
        refine ⟨Classical.byContradiction h1, by omega, fun hn => ⟨?_, ?_⟩⟩
        · cases made
          · exact absurd ⟨hn, rfl⟩ h2
          · rfl
        · exact Nat.lt_of_not_le fun h16 => h3 (.inr ⟨hn, h16⟩)

theorem does_dead (h : DiskAt w bd bm fs 0 dead) (name : ByteArray) (size : Int) (made : Bool) (how : Value) (hz : ahead fs dead name size made = 0) :
    Calls Try.prog 30 #[.pointer (some ⟨bd, 0, none⟩), .string name, .int .i64 size, .bool made, how] w fun e w' => e = .returned (.int .i64 17) ∧ w' = w.setCell ⟨bd, 2, none⟩ (.bool true) := by
  obtain ⟨e0, hs, hn⟩ := ahead_zero hz
  have ha := asked_any h name
  rw [e0] at ha
  have HA := Lib.hid ha
  have HB := Lib.hid (burns_zero h)
  have h0 := h.c0
  have hml := len_map h 3
  cases hf : findF name fs with
  | none =>
    have hl := look_none h hf
    obtain ⟨rfl, h16⟩ := hn hf
    clear ha h e0 hf hz hn
    go_enter Try.func30, Try.ntmps30
    go_wp2_with (first | (go_at_call 35; refine HA.out.mono ?_; rintro e w' ⟨rfl, rfl⟩) | (go_at_call 50; refine HB.out.mono ?_; rintro e w' ⟨rfl, rfl⟩))
    go_ret
    exact ⟨rfl, rfl⟩
  | some f =>
    have hl := look_some h hf
    clear ha h e0 hf hz hn
    go_enter Try.func30, Try.ntmps30
    go_wp2_with (first | (go_at_call 35; refine HA.out.mono ?_; rintro e w' ⟨rfl, rfl⟩) | (go_at_call 50; refine HB.out.mono ?_; rintro e w' ⟨rfl, rfl⟩))
    go_ret
    exact ⟨rfl, rfl⟩

/-- A call of fn goes into its body. -/
def Enters (fn : FuncId) : Prop := ∀ (args : Array Value) (w : World), (callFunc fn args).run Try.prog w = .ok (.enter fn args) w

/-- A doing to a file that is there. -/
theorem does_found (h : DiskAt w bd bm fs fuse dead) {name : ByteArray} {size : Int} {made : Bool} {fn : FuncId} {cap : Array Value} (hcf : Enters fn) (hz : ahead fs dead name size made = 0) (hfu : fuse ≠ 0) {f : PF} (hf : findF name fs = some f) {R : World → Prop}
    (how : ∀ w1, DiskAt w1 bd bm fs (burned fuse) dead → Keep (fun k => k = bd) w w1 → Calls Try.prog fn (#[.pointer (some ⟨f.blk, 0, none⟩)] ++ cap) w1 fun e w2 => e = .returned (.tuple #[]) ∧ R w2) :
    Calls Try.prog 30 #[.pointer (some ⟨bd, 0, none⟩), .string name, .int .i64 size, .bool made, .func (.func fn) #[] cap] w fun e w' => e = .returned (.int .i64 0) ∧ R w' := by
  obtain ⟨e0, hs, hn⟩ := ahead_zero hz
  have ha := asked_any h name
  rw [e0] at ha
  have HA := Lib.hid ha
  have HB := Lib.hid (burns_go h hfu)
  have HH := Lib.hid how
  have h0 := h.c0
  have hl := look_some h hf
  have hcf' : ∀ (args : Array Value) (w : World), (callFunc fn args).run Try.prog w = .ok (.enter fn args) w := hcf
  clear ha h e0 hf hz hn how hfu hcf
  go_enter Try.func30, Try.ntmps30
  go_wp2_with (first | (go_at_call 35; refine HA.out.mono ?_; rintro e w' ⟨rfl, rfl⟩) | (go_at_call 50; refine HB.out.mono ?_; rintro e w1 ⟨rfl, k1, k2, k3⟩; have HH' := Lib.hid (HH.out w1 k1 k2); clear k1 k2 k3))
  refine HH'.out.mono ?_
  rintro e w2 ⟨rfl, k⟩
  have K2 := Lib.hid k
  clear k
  go_wp2
  go_ret
  exact ⟨rfl, K2.out⟩

/-- The file that a doing makes. -/
def newF (name : ByteArray) (b : Nat) : PF := ⟨name, b, .slice none 0 0, [], 0⟩

theorem new_close {w1 : World} {name : ByteArray} (h : DiskAt w1 bd bm fs fuse dead) (hf : findF name fs = none) (h16 : fs.length < 16) {es : Array MapEntry} {clock : Nat} (hm : w1.heap[bm]? = some (.map es clock)) (hM : MapS es clock (fs.map ent)) :
    DiskAt (setBlock (w1.alloc (.cells #[.slice none 0 0, .int .i64 0, .string name] 63)) bm (.map (es.push { key := .string name, val := .pointer (some ⟨w1.heap.size, 0, none⟩), born := clock }) (clock + 1))) bd bm (fs ++ [newF name w1.heap.size]) fuse dead ∧
    Keep (fun k => k = bm) w1 (setBlock (w1.alloc (.cells #[.slice none 0 0, .int .i64 0, .string name] 63)) bm (.map (es.push { key := .string name, val := .pointer (some ⟨w1.heap.size, 0, none⟩), born := clock }) (clock + 1))) := by
  have hk : Keep (fun k => k = bm) w1 (setBlock (w1.alloc (.cells #[.slice none 0 0, .int .i64 0, .string name] 63)) bm (.map (es.push { key := .string name, val := .pointer (some ⟨w1.heap.size, 0, none⟩), born := clock }) (clock + 1))) :=
    ((Keep.refl _ _).alloc _).setBlock _ _ (.inr rfl)
  have hlt := lt_of_heap hm
  have hmn : (w1.alloc (.cells #[.slice none 0 0, .int .i64 0, .string name] 63)).heap[bm]? = some (.map es clock) := by rw [alloc_old _ _ _ hlt]; exact hm
  have ha : assocS name (fs.map ent) = none := by rw [assoc_ent, hf]; rfl
  refine ⟨⟨hk.obj h.disk h.bd_bm, ⟨_, _, heap_setBlock _ _ _ _ hmn, ?_⟩, ?_, ?_, ?_, h.fuse0, h.fuse1⟩, hk⟩
  · rw [List.map_append]
    exact hM.push ha _
  · intro f hf'
    rcases List.mem_append.1 hf' with hf' | hf'
    · exact (h.file f hf').keep hk (h.blk_bm hf') (fun g hg e => h.own_bm hf' (e ▸ hg))
    · simp at hf'
      subst hf'
      refine ⟨?_, Own.nil _ _ _, Nat.le_refl _, by simp [newF]⟩
      rw [heap_setBlock_ne _ _ _ _ (by simp [newF]; omega)]
      exact alloc_at _ _ _ rfl
  · rw [List.pairwise_append]
    refine ⟨h.sep, by simp, ?_⟩
    intro f hf' g hg
    simp at hg
    subst hg
    refine ⟨fun e => ?_, fun e => ?_, fun k _ => by simp [newF, own]⟩
    · have : name ∈ fs.map (·.name) := List.mem_map.2 ⟨f, hf', e⟩
      have h2 := List.find?_eq_none.1 hf f hf'
      simp at h2
      exact h2 e
    · have := lt_of_heap (h.file f hf').cells
      simp [newF] at e
      omega
  · simp; omega

/-- A doing to a file that is not there. -/
theorem does_new (h : DiskAt w bd bm fs fuse dead) {name : ByteArray} {size : Int} {made : Bool} {fn : FuncId} {cap : Array Value} (hcf : Enters fn) (hz : ahead fs dead name size made = 0) (hfu : fuse ≠ 0) (hf : findF name fs = none) {R : World → Prop}
    (how : ∀ w1 nb, w.heap.size ≤ nb → DiskAt w1 bd bm (fs ++ [newF name nb]) (burned fuse) dead → Keep (fun k => k = bd ∨ k = bm) w w1 → Calls Try.prog fn (#[.pointer (some ⟨nb, 0, none⟩)] ++ cap) w1 fun e w2 => e = .returned (.tuple #[]) ∧ R w2) :
    Calls Try.prog 30 #[.pointer (some ⟨bd, 0, none⟩), .string name, .int .i64 size, .bool made, .func (.func fn) #[] cap] w fun e w' => e = .returned (.int .i64 0) ∧ R w' := by
  obtain ⟨e0, hs, hn⟩ := ahead_zero hz
  obtain ⟨rfl, h16⟩ := hn hf
  have ha := asked_any h name
  rw [e0] at ha
  have HA := Lib.hid ha
  have HB := Lib.hid (burns_go h hfu)
  have HH := Lib.hid how
  have h0 := h.c0
  have hl := look_none h hf
  have hml := len_map h 3
  have hcf' : ∀ (args : Array Value) (w : World), (callFunc fn args).run Try.prog w = .ok (.enter fn args) w := hcf
  have H16 := Lib.hid h16
  have h16' : (fs.length : Int) < 16 := by omega
  have HF := Lib.hid hf
  clear ha h e0 hf hz hn how hfu hcf h16
  go_enter Try.func30, Try.ntmps30
  go_wp2_with (first | (go_at_call 35; refine HA.out.mono ?_; rintro e w' ⟨rfl, rfl⟩) | (go_at_call 50; refine HB.out.mono ?_; rintro e w1 ⟨rfl, k1, k2, k3⟩; obtain ⟨es, clock, hm, hM⟩ := k1.map; have h1 := k1.c0; have hb1 := lt_of_heap k1.disk; have hput := fun o v => run_put_new (w := w1.alloc o) (v := v) Try.underlying44 Try.underlying9 ((alloc_old _ o _ (lt_of_heap hm)).trans hm) hM (by rw [assoc_ent, HF.out]; rfl); have K1 := Lib.hid k1; have K2 := Lib.hid k2; have K3 := Lib.hid k3; have HM := Lib.hid hM; have Hm := Lib.hid hm; clear k1 k2 k3 hM hm))
  have hn := new_close K1.out HF.out H16.out Hm.out HM.out
  refine (HH.out _ _ K2.out.size hn.1 (K2.out.trans' hn.2 (fun _ _ h => .inl h) (fun _ _ h => .inr h))).mono ?_
  rintro e w2 ⟨rfl, k⟩
  have K4 := Lib.hid k
  clear k hn
  go_wp2
  go_ret
  exact ⟨rfl, K4.out⟩
end
end Go.Proofs.Ytlnlgjifepjkbaa
