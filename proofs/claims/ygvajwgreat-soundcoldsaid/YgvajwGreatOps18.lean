import Derived.Test.YgvajwGreatOps17
namespace Go.Proofs.YgvajwGreat.Ev
variable {P : Program}
section
variable {o : Oper} {cf : CallF} {dr : Option Nat} {r0 q v : Nat} {a : List Bnd} {H : Hp} {kk : K}
/-- append in place, or a new row: the open case -/
def appG (es l n X cap ad : Nat) (p : Pt) (q v : Nat) (a : List Bnd) (H : Hp) (k : K) : Bool :=
  bB (Nat.ble ((bk H (aLoc ad)).sz + n * es) 31000)
    (toSl (pAddr H.uid (aLoc ad) 0) (l + n) cap fun r =>
      p.ps r q v a ⟨H.uid + 1, H.ptop, H.ltop, qset 6 H.blks (aLoc ad) ⟨H.uid, (bk H (aLoc ad)).ty, (bk H (aLoc ad)).sz + n * es, es,
        (scat q 500 (bk H (aLoc ad)).s0 (bk H (aLoc ad)).more (bk H (aLoc ad)).sz (n * es) X).1, (scat q 500 (bk H (aLoc ad)).s0 (bk H (aLoc ad)).more (bk H (aLoc ad)).sz (n * es) X).2⟩⟩ k) false
def appO (es el l n X cap ad : Nat) (p : Pt) (q v : Nat) (a : List Bnd) (H : Hp) (k : K) : Bool :=
  bB (Nat.beq (bk H (aLoc ad)).uid (aUid ad))
    (bB (Nat.ble (aOff ad + (l + n) * es) (bk H (aLoc ad)).sz)
      (stN q H (pAdd ad (l * es)) (n * es) X fun H => toSl ad (l + n) cap fun r => p.ps r q v a H k)
      (z0 (aOff ad) (bB (Nat.beq (l * es) (bk H (aLoc ad)).sz) (bB (Nat.beq (bk H (aLoc ad)).es es) (bB (Nat.ble H.uid 16777215) (bB (Nat.beq (bk H (aLoc ad)).ty el)
        (appG es l n X cap ad p q v a H k) false) false) false) false) false)) false
def appC (es el : Nat) (loc : Bool) (l n X cs cap ad : Nat) (p : Pt) (q v : Nat) (a : List Bnd) (H : Hp) (k : K) : Bool :=
  bB (Nat.ble (l + n) cap)
    (stN q H (pAdd ad (l * es)) (n * es) X fun H => toSl ad (l + n) cap fun r => p.ps r q v a H k)
    (slCells H es cs l fun Y => newRow es el loc (l + n) (Y + X <<< (128 * (l * es))) p q v a H k)
theorem appN_eq (es el : Nat) (loc : Bool) (cs n X : Nat) (p : Pt) (q v : Nat) (a : List Bnd) (H : Hp) (k : K) : appN es el loc cs n X p q v a H k =
    z0 n (p.ps cs q v a H k) (bB (Nat.beq cs 12) (newRow es el loc n X p q v a H k) (bB (Nat.beq (tag cs) 13)
      (bB (Nat.ble openCap (sCap cs)) (bB (Nat.beq (sCap cs - openCap) es) (appO es el (sLen cs) n X (sCap cs) (sAddr cs) p q v a H k) false)
        (appC es el loc (sLen cs) n X cs (sCap cs) (sAddr cs) p q v a H k)) false)) := by
  unfold appN appO appC appG
  simp only [fN_eq]
  rw [hpK_eq, blK_eq, prK_eq]
  rfl
theorem slice_inj {b b' : Option Addr} {n n' m m' : Nat} (h : Value.slice b n m = Value.slice b' n' m') : b = b' ∧ n = n' ∧ m = m' := by cases h; exact ⟨rfl, rfl, rfl⟩
/-- the code of a slice, taken apart -/
theorem RelC.slParts {g : Gh} {c n m : Nat} {b : Addr} (h : RelC g c (.slice (some b) n m)) : n ≤ m ∧ sLen c = n ∧ AddrOK g (sAddr c) b ∧ sAddr c < 18446744073709551616 ∧ sCap c < 16777216 ∧
    ∃ u l s, u < 16777216 ∧ l < 4096 ∧ sAddr c = pAddr u l b.off ∧ g u = some (b.block, s) ∧ (sCap c < openCap → m = sCap c) ∧ (openCap ≤ sCap c → sCap c ≠ openCap ∧ b.off + m * (sCap c - openCap) = s) := by
  obtain ⟨h0, h1, u, l, s, cap, h2, h3, h4, h5, h6, h7, h8, h9, h10⟩ := h
  subst h7
  rw [sLen_cSl h4 h5, sAddr_cSl h4, sCap_cSl h4 h5]
  exact ⟨h1, rfl, ⟨h0, u, l, s, h2, h3, rfl, h8⟩, h4, h6, u, l, s, h2, h3, rfl, h8, h9, h10⟩
/-- a slice of the same place with another length -/
theorem RelC.slRe {g : Gh} {c n m N : Nat} {b : Addr} (h : RelC g c (.slice (some b) n m)) (hN : N ≤ m) (hN' : N < 16777216) : RelC g (cSl (sAddr c) N (sCap c)) (.slice (some b) N m) := by
  obtain ⟨h1, h2, ⟨h0, _⟩, h3, h4, u, l, s, k1, k2, k3, k4, k5, k6⟩ := h.slParts
  exact ⟨h0, hN, u, l, s, sCap c, k1, k2, by rw [← k3]; exact h3, hN', h4, by rw [← k3], k4, k5, k6⟩
end
end Go.Proofs.YgvajwGreat.Ev
