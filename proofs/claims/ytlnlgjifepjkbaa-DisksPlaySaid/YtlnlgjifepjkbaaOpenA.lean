/- What came in as data: slices of bytes and of ints, read as lists; the reach of each. -/
import Derived.Test.YtlnlgjifepjkbaaLift
import Derived.Deep.Slices
import Derived.SizedLaws
namespace Go.Proofs.Ytlnlgjifepjkbaa
open Go.RowKit
set_option maxRecDepth 20000

/-- What was read is within the form's own reach. -/
def Fit {H : Type} (P : Program) (t : TypeId) (d : DataW H) : Prop := ∀ n ∈ d.weights P t, n ≤ reachBytes

section
variable {H : Type} {enc : TypeId × Value → H} {P : Program} {w : World}

theorem mem_weightsAll {t : TypeId} : ∀ {l : List (DataW H)} {d : DataW H}, d ∈ l → ∀ n ∈ d.weights P t, n ∈ DataW.weightsAll P t l
  | x :: r, d, h, n, hn => by
    simp only [DataW.weightsAll, List.mem_append]
    cases h with
    | head => exact .inl hn
    | tail _ h => exact .inr (mem_weightsAll h n hn)
theorem Fit.slice {t e : TypeId} {es sp : List (DataW H)} (ht : P.underlying t = some (.slice e)) (h : Fit P t (.slice es sp)) : (es.length + sp.length) * P.bytesOf e ≤ reachBytes ∧ ∀ d ∈ es, Fit P e d := by
  have hw : (DataW.slice es sp).weights P t = (es.length + sp.length) * P.bytesOf e :: (DataW.weightsAll P e es ++ DataW.weightsAll P e sp) := by simp [DataW.weights, ht]
  refine ⟨h _ (by rw [hw]; exact .head _), fun d hd n hn => h n ?_⟩
  rw [hw]
  exact .tail _ (List.mem_append_left _ (mem_weightsAll hd n hn))
theorem Fit.string {t : TypeId} {b : List UInt8} (h : Fit P t (.lit (.string b) : DataW H)) : b.length ≤ reachBytes := h _ (by simp [DataW.weights])
theorem Fit.struct {t : TypeId} {fs : Array Field} {ds : List (DataW H)} (ht : P.underlying t = some (.struct fs)) (h : Fit P t (.agg ds)) (j : Nat) {f : Field} {d : DataW H} (hf : fs[j]? = some f) (hd : ds[j]? = some d) : Fit P f.type d := by
  intro n hn
  refine h n ?_
  simp only [DataW.weights, ht]
  exact DataW.weights_mem_each (j := j) (by simp [hf]) hd n hn

theorem add_lit (b off k : Nat) : (⟨b, off, none⟩ : Addr).add k = ⟨b, off + k, none⟩ := by
  unfold Addr.add
  split <;> simp_all
theorem spot_none {a : Addr} {v : Value} (h : w.cell? a = some v) : a.spot = none := by
  unfold World.cell? at h
  split at h
  · split at h
    · cases h
    · rename_i hs; simpa using hs
  · cases h

/-- A slice whose elements are one cell each, as a list of values. -/
theorem open_cells {t e : TypeId} {fuel : Nat} {cs : List Value} {x : DataW H × List MemPlace} (ht : P.underlying t = some (.slice e)) (hc : P.cellsOf e = 1) (h : DataW.trod enc P w 0 (fun _ => true) true fuel t cs = some x) (hfit : Fit P t x.1) (hb : 1 ≤ P.bytesOf e) :
    ∃ v vs, cs = [v] ∧ Sl w 1 v vs.length vs ∧ vs.length ≤ reachBytes ∧ (∀ g, blk v = some g → vs ≠ [] → g < w.heap.size) ∧ ∀ u ∈ vs, ∃ n d p, DataW.trod enc P w 0 (fun _ => true) true n e [u] = some (d, p) ∧ Fit P e d := by
  rcases Go.Deep.open_slice1 ht hc h with ⟨rfl, rfl⟩ | ⟨a, len, cap, m, n, V, D, Pl, rfl, _, hl, hm, rfl, rfl, hx⟩
  · exact ⟨_, [], rfl, ⟨by simp, none, 0, rfl, Nat.le_refl _, Nat.zero_le _, fun h => absurd rfl h⟩, Nat.zero_le _, fun g hg => by simp [blk] at hg, fun u hu => by cases hu⟩
  · simp only [if_true] at hx hfit
    have hf := hfit.slice ht
    have hlen : ((List.range len).map V).length = len := by simp
    refine ⟨_, (List.range len).map V, rfl, ⟨by simp, _, _, by rw [hlen], by rw [hlen]; exact hl, hm, fun hne => ?_⟩, ?_, fun g hg hne => ?_, fun u hu => ?_⟩
    · have hpos : 0 < len := by
        rcases Nat.eq_zero_or_pos len with rfl | h
        · simp at hne
        · exact h
      have h0 := (hx 0 (by omega)).1
      have hsp : (a.add 0).spot = none := spot_none h0
      obtain ⟨b, off, sp⟩ := a
      have hsp' : sp = none := by simpa [Addr.add] using hsp
      subst hsp'
      refine ⟨b, off, rfl, fun j u hu => ?_⟩
      rw [List.getElem?_map] at hu
      by_cases hj : j < len
      · have := (hx j (by omega)).1
        rw [add_lit] at this
        simp [hj] at hu
        rw [this, hu]
      · simp [hj] at hu
    · rw [hlen]
      have h1 := hf.1
      simp only [List.length_map, List.length_range] at h1
      have h2 : (len + (m - len)) * 1 ≤ (len + (m - len)) * P.bytesOf e := Nat.mul_le_mul_left _ hb
      omega
    · have hpos : 0 < len := by
        rcases Nat.eq_zero_or_pos len with rfl | h
        · simp at hne
        · exact h
      have h0 := (hx 0 (by omega)).1
      have : (a.add 0).block < w.heap.size := block_lt_of_cell h0
      simp [blk] at hg
      have e : (a.add 0).block = a.block := by simp [Addr.add]
      omega
    · obtain ⟨i, hi, rfl⟩ := List.mem_map.1 hu
      have hi' : i < len := by simpa using hi
      exact ⟨n, D i, Pl i, (hx i (by omega)).2, hf.2 _ (List.mem_map.2 ⟨i, hi, rfl⟩)⟩
theorem open_int {t : TypeId} {k : IntKind} {fuel : Nat} {v : Value} {x : DataW H × List MemPlace} (ht : P.underlying t = some (.int k)) (h : DataW.trod enc P w 0 (fun _ => true) true fuel t [v] = some x) : ∃ n, v = .int k n ∧ k.min ≤ n ∧ n ≤ k.max := by
  obtain ⟨n, h1, h2, h3⟩ := DataW.trod_int ht h
  cases h1
  exact ⟨n, rfl, by simpa [Lit.wf] using h3⟩
theorem open_str {t : TypeId} {fuel : Nat} {v : Value} {x : DataW H × List MemPlace} (ht : P.underlying t = some .string) (h : DataW.trod enc P w 0 (fun _ => true) true fuel t [v] = some x) (hfit : Fit P t x.1) : ∃ s : ByteArray, v = .string s ∧ s.size ≤ reachBytes := by
  obtain ⟨s, h1, rfl, h3⟩ := DataW.trod_string ht h
  cases h1
  refine ⟨s, rfl, ?_⟩
  have := hfit.string
  simpa using this
/-- A list of bytes that came in. -/
theorem open_bytes {t e : TypeId} {fuel : Nat} {cs : List Value} {x : DataW H × List MemPlace} (ht : P.underlying t = some (.slice e)) (he : P.underlying e = some (.int .u8)) (hc : P.cellsOf e = 1) (hb : 1 ≤ P.bytesOf e) (h : DataW.trod enc P w 0 (fun _ => true) true fuel t cs = some x) (hfit : Fit P t x.1) :
    ∃ v l, cs = [v] ∧ Sl w 1 v l.length (bv l) ∧ l.length ≤ reachBytes ∧ ∀ g, blk v = some g → l ≠ [] → g < w.heap.size := by
  obtain ⟨v, vs, rfl, h1, h2, h3, h4⟩ := open_cells ht hc h hfit hb
  obtain ⟨l, rfl⟩ : ∃ l, vs = bv l := by
    refine ⟨vs.map fun v => match v with | .int _ n => UInt8.ofNat n.toNat | _ => 0, ?_⟩
    unfold bv
    rw [List.map_map]
    conv => lhs; rw [← List.map_id vs]
    apply List.map_congr_left
    intro u hu
    obtain ⟨n, d, p, h5, _⟩ := h4 u hu
    obtain ⟨n', rfl, h6, h7⟩ := open_int he h5
    have h8 : n' ≤ 255 := h7
    have h9 : 0 ≤ n' := h6
    simp only [id, Function.comp]
    congr 1
    have : (UInt8.ofNat n'.toNat).toNat = n'.toNat % 256 := UInt8.toNat_ofNat'
    rw [this]
    omega
  rw [bv_length] at h1 h2
  exact ⟨v, l, rfl, h1, h2, fun g hg hne => h3 g hg (fun e => hne (by simpa [bv] using e))⟩
/-- A list of ints that came in. -/
theorem open_intl {t e : TypeId} {fuel : Nat} {cs : List Value} {x : DataW H × List MemPlace} (ht : P.underlying t = some (.slice e)) (he : P.underlying e = some (.int .i64)) (hc : P.cellsOf e = 1) (hb : 1 ≤ P.bytesOf e) (h : DataW.trod enc P w 0 (fun _ => true) true fuel t cs = some x) (hfit : Fit P t x.1) :
    ∃ v l, cs = [v] ∧ Sl w 1 v l.length (iv l) ∧ l.length ≤ reachBytes ∧ (∀ g, blk v = some g → l ≠ [] → g < w.heap.size) ∧ ∀ i ∈ l, -9223372036854775808 ≤ i ∧ i ≤ 9223372036854775807 := by
  obtain ⟨v, vs, rfl, h1, h2, h3, h4⟩ := open_cells ht hc h hfit hb
  obtain ⟨l, rfl⟩ : ∃ l, vs = iv l := by
    refine ⟨vs.map fun v => match v with | .int _ n => n | _ => 0, ?_⟩
    unfold iv
    rw [List.map_map]
    conv => lhs; rw [← List.map_id vs]
    apply List.map_congr_left
    intro u hu
    obtain ⟨n, d, p, h5, _⟩ := h4 u hu
    obtain ⟨n', rfl, h6, h7⟩ := open_int he h5
    rfl
  rw [iv_length] at h1 h2
  refine ⟨v, l, rfl, h1, h2, fun g hg hne => h3 g hg (fun e => hne (by simpa [iv] using e)), fun i hi => ?_⟩
  obtain ⟨n, d, p, h5, _⟩ := h4 (.int .i64 i) (List.mem_map.2 ⟨i, hi, rfl⟩)
  obtain ⟨n', e, h6, h7⟩ := open_int he h5
  cases e
  exact ⟨h6, h7⟩
end
end Go.Proofs.Ytlnlgjifepjkbaa
