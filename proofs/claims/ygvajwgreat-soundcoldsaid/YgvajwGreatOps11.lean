import Derived.Test.YgvajwGreatOps10
import Derived.Laws.MakeOwn
import Derived.Laws.Tables
namespace Go.Proofs.YgvajwGreat.Ev
variable {P : Program}
/-! new blocks -/
theorem alloc_inv {dr : Option Nat} {loc : Bool} {ty sz es : Nat} {z : Nat × QT Nat 5} {r0 : Nat} {H : Hp} {k : Nat → Hp → Bool} (h : alloc dr loc ty sz es z r0 H k = true) :
    ∃ u l hu' p t, (∀ k', alloc dr loc ty sz es z r0 H k' = k' (pAddr u l 0) ⟨hu', p, t, qset 6 H.blks l ⟨u, ty, sz, es, z.1, z.2⟩⟩) ∧
      k (pAddr u l 0) ⟨hu', p, t, qset 6 H.blks l ⟨u, ty, sz, es, z.1, z.2⟩⟩ = true ∧ l < 4096 ∧ u < 16777216 ∧ sz ≤ 31000 ∧
      ((dr = none ∧ u = H.uid ∧ hu' = H.uid + 1) ∨ ∃ i, dr = some i ∧ u = r0 + i ∧ hu' = H.uid) := by
  have e : ∀ k', alloc dr loc ty sz es z r0 H k' = bB (Nat.ble (dr.casesOn H.uid (fun i => r0 + i)) 16777215) (bB (Nat.ble sz 31000)
      (bB loc
        (bB (Nat.ble (2 * H.ltop + 1) 4095) (k' (pAddr (dr.casesOn H.uid (fun i => r0 + i)) (2 * H.ltop + 1) 0) ⟨dr.casesOn (H.uid + 1) (fun _ => H.uid), H.ptop, H.ltop + 1, qset 6 H.blks (2 * H.ltop + 1) ⟨dr.casesOn H.uid (fun i => r0 + i), ty, sz, es, z.1, z.2⟩⟩) false)
        (bB (Nat.ble (2 * H.ptop) 4095) (k' (pAddr (dr.casesOn H.uid (fun i => r0 + i)) (2 * H.ptop) 0) ⟨dr.casesOn (H.uid + 1) (fun _ => H.uid), H.ptop + 1, H.ltop, qset 6 H.blks (2 * H.ptop) ⟨dr.casesOn H.uid (fun i => r0 + i), ty, sz, es, z.1, z.2⟩⟩) false)) false) false := fun k' => by
    unfold alloc newB
    rw [hpK_eq]
    simp only [fN_eq, prK_eq]
    rfl
  rw [e] at h
  obtain ⟨h1, h2⟩ := bB_and.1 h
  obtain ⟨h3, h4⟩ := bB_and.1 h2
  have hu : ∃ u hu', (dr.casesOn H.uid (fun i => r0 + i) : Nat) = u ∧ (dr.casesOn (H.uid + 1) (fun _ => H.uid) : Nat) = hu' ∧ ((dr = none ∧ u = H.uid ∧ hu' = H.uid + 1) ∨ ∃ i, dr = some i ∧ u = r0 + i ∧ hu' = H.uid) := by
    cases dr with
    | none => exact ⟨_, _, rfl, rfl, .inl ⟨rfl, rfl, rfl⟩⟩
    | some i => exact ⟨_, _, rfl, rfl, .inr ⟨i, rfl, rfl, rfl⟩⟩
  obtain ⟨u, hu', e1, e2, hd⟩ := hu
  rw [e1] at h1 h4
  rw [e2] at h4
  have g1 := ble_t h1
  have g3 := ble_t h3
  rcases bB_or.1 h4 with ⟨h5, h6⟩ | ⟨h5, h6⟩
  · obtain ⟨h7, h8⟩ := bB_and.1 h6
    exact ⟨u, 2 * H.ltop + 1, hu', _, _, fun k' => by rw [e, e1, e2, h1, bB_t, h3, bB_t, h5, bB_t, h7, bB_t], h8, by have := ble_t h7; omega, by omega, g3, hd⟩
  · obtain ⟨h7, h8⟩ := bB_and.1 h6
    exact ⟨u, 2 * H.ptop, hu', _, _, fun k' => by rw [e, e1, e2, h1, bB_t, h3, bB_t, h5, bB_f, h7, bB_t], h8, by have := ble_t h7; omega, by omega, g3, hd⟩

/-- a row that the world has grown by is laid into the heap under the number u -/
theorem alloc_sound {g : Gh} {H : Hp} {w : World} (hH : RelH g H w) {u l hu' p t ty sz es : Nat} {z : Nat × QT Nat 5} (hl : l < 4096) (hu : u < 16777216) (hsz : sz ≤ 31000)
    (hg : g u = none) (hu0 : u ≠ 0) (hlt : u < hu') (hle : H.uid ≤ hu') (hku : H.uid ≤ u) {arr : Array Value} (h1 : sz ≤ arr.size) (h2 : es = 0 → sz = arr.size)
    (hc : ∀ i, i < sz → ∃ v, arr[i]? = some v ∧ RelC g (cellB z.1 z.2 i) v) :
    ∃ g', St g H w g' ⟨hu', p, t, qset 6 H.blks l ⟨u, ty, sz, es, z.1, z.2⟩⟩ (w.alloc (.cells arr ty)) ∧ g' u = some (w.heap.size, arr.size) ∧ AddrOK g' (pAddr u l 0) ⟨w.heap.size, 0, none⟩ := by
  have hext : Ext g (gPut g u w.heap.size arr.size) := gPut_ext hg
  have hwh : ∀ b, b < w.heap.size → (w.alloc (.cells arr ty)).heap[b]? = w.heap[b]? := fun b hb => by
    show (w.heap.push _)[b]? = _
    rw [Array.getElem?_push, if_neg (Nat.ne_of_lt hb)]
  have hnew : (w.alloc (.cells arr ty)).heap[w.heap.size]? = some (.cells arr ty (0, 0)) := by
    show (w.heap.push _)[w.heap.size]? = _
    rw [Array.getElem?_push, if_pos rfl]
  have hH1 : RelH g ⟨hu', H.ptop, H.ltop, H.blks⟩ w := hH.uid hle
  have hH2 : RelH (gPut g u w.heap.size arr.size) ⟨hu', H.ptop, H.ltop, H.blks⟩ (w.alloc (.cells arr ty)) := hH1.grow hg hu0 hlt hwh
  have hB : RelB (gPut g u w.heap.size arr.size) (w.alloc (.cells arr ty)) ⟨u, ty, sz, es, z.1, z.2⟩ :=
    ⟨w.heap.size, arr.size, arr, gPut_same _ _ _ _, hnew, rfl, h1, h2, hsz, fun i hi => by obtain ⟨v, e1, e2⟩ := hc i hi; exact ⟨v, e1, e2.mono hext⟩⟩
  have hno : ¬ Owns (gPut g u w.heap.size arr.size) ⟨hu', H.ptop, H.ltop, H.blks⟩ w.heap.size := fun h => by
    have := owns_lt hH1 (owns_grow hH1 hg h)
    omega
  refine ⟨gPut g u w.heap.size arr.size, ⟨hext, hH2.insert hl hB (gPut_same _ _ _ _) hno, ⟨by show w.heap.size ≤ (w.heap.push _).size; rw [Array.size_push]; omega, rfl, rfl, frozen_alloc w arr ty, fun b hb ho => ⟨hwh b hb, fun h => ?_⟩⟩, hle, fun x hx => gPut_ne g (by omega)⟩, gPut_same _ _ _ _, rfl, u, l, arr.size, hu, hl, rfl, gPut_same _ _ _ _⟩
  rcases owns_insert hl (gPut_same _ _ _ _) h with h | h
  · omega
  · exact ho (owns_grow hH1 hg h)
end Go.Proofs.YgvajwGreat.Ev
