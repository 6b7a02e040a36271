import GoSem.ClaimFn
import Derived.KernelRfl
namespace Go.Proofs.YgvajwGreat.soundCold
section
variable {P : Program}
def ltF (P : Program) (g : Nat) : List Nat := (P.funcs[g]?).elim [] P.leadsTo
theorem closureVia_sub {Q : Nat → Prop} (hQ : ∀ g, Q g → ∀ h, h ∈ ltF P g → Q h) : ∀ (n : Nat) (todo seen : List Nat), (∀ x, x ∈ todo → Q x) → (∀ x, x ∈ seen → Q x) → ∀ x, x ∈ P.closureVia n todo seen → Q x
  | 0, todo, seen, _, h2, x, hx => by
    have e : P.closureVia 0 todo seen = seen.reverse := by cases todo <;> rfl
    rw [e] at hx
    exact h2 x (by simpa using hx)
  | n + 1, [], seen, _, h2, x, hx => by
    have e : P.closureVia (n + 1) [] seen = seen.reverse := rfl
    rw [e] at hx
    exact h2 x (by simpa using hx)
  | n + 1, f :: todo, seen, h1, h2, x, hx => by
    have e : P.closureVia (n + 1) (f :: todo) seen = if seen.contains f then P.closureVia n todo seen else P.closureVia n (ltF P f ++ todo) (f :: seen) := rfl
    rw [e] at hx
    have hf : Q f := h1 f (List.mem_cons_self ..)
    by_cases hc : seen.contains f = true
    · rw [if_pos hc] at hx
      exact closureVia_sub hQ n todo seen (fun y hy => h1 y (List.mem_cons_of_mem _ hy)) h2 x hx
    · rw [if_neg hc] at hx
      refine closureVia_sub hQ n _ _ (fun y hy => ?_) (fun y hy => ?_) x hx
      · rcases List.mem_append.1 hy with hy | hy
        · exact hQ f hf y hy
        · exact h1 y (List.mem_cons_of_mem _ hy)
      · rcases List.mem_cons.1 hy with rfl | hy
        · exact hf
        · exact h2 y hy
theorem closure_sub {Q : Nat → Prop} (hQ : ∀ g, Q g → ∀ h, h ∈ ltF P g → Q h) {f : Nat} (hf : Q f) : ∀ x, x ∈ P.closure f → Q x :=
  closureVia_sub hQ _ _ _ (fun x hx => by rw [List.mem_singleton] at hx; rw [hx]; exact hf) (fun x hx => by cases hx)
def bitM (S g : Nat) : Bool := Nat.beq (Nat.land (Nat.shiftRight S g) 1) 1
def rkOf (R g : Nat) : Nat := Nat.land (Nat.shiftRight R (Nat.mul 8 g)) 255
def edgesB (S R r : Nat) : List Nat → Bool
  | [] => true
  | h :: l => and (bitM S h) (and (Nat.ble (Nat.succ (rkOf R h)) r) (edgesB S R r l))
def ranksB (P : Program) (S R : Nat) : List Func → Nat → Bool
  | [], g => Nat.beq (Nat.shiftRight S g) 0
  | F :: l, g => and (or (not (bitM S g)) (edgesB S R (rkOf R g) (P.leadsTo F))) (ranksB P S R l (Nat.succ g))
theorem edgesB_spec {S R r : Nat} : ∀ l, edgesB S R r l = true → ∀ h, h ∈ l → bitM S h = true ∧ rkOf R h < r
  | [], _, h, hh => by cases hh
  | x :: l, hb, h, hh => by
    have hb : and (bitM S x) (and (Nat.ble (Nat.succ (rkOf R x)) r) (edgesB S R r l)) = true := hb
    rw [Bool.and_eq_true, Bool.and_eq_true] at hb
    rcases List.mem_cons.1 hh with rfl | hh
    · exact ⟨hb.1, Nat.le_of_ble_eq_true hb.2.1⟩
    · exact edgesB_spec l hb.2.2 h hh
theorem ranksB_spec {S R : Nat} : ∀ (l : List Func) (g : Nat), ranksB P S R l g = true → ∀ (i : Nat) F, l[i]? = some F → bitM S (g + i) = true → edgesB S R (rkOf R (g + i)) (P.leadsTo F) = true
  | [], g, _, i, F, hF => by simp at hF
  | G :: l, g, hb, i, F, hF => by
    have hb : and (or (not (bitM S g)) (edgesB S R (rkOf R g) (P.leadsTo G))) (ranksB P S R l (g + 1)) = true := hb
    rw [Bool.and_eq_true] at hb
    intro hbit
    cases i with
    | zero =>
      simp at hF
      subst hF
      rw [Nat.add_zero] at hbit ⊢
      have h1 := hb.1
      rw [hbit] at h1
      simpa using h1
    | succ i =>
      simp at hF
      rw [show g + (i + 1) = g + 1 + i by omega] at hbit ⊢
      exact ranksB_spec l (g + 1) hb.2 i F hF hbit
theorem recurses_false {S R f : Nat} (hu : P.unfollowed f = false) (hf : bitM S f = true) (hr : ranksB P S R P.funcs.toList 0 = true) : P.recurses f = false := by
  have hE : ∀ g, bitM S g = true → ∀ h, h ∈ ltF P g → bitM S h = true ∧ rkOf R h < rkOf R g := fun g hg h hh => by
    unfold ltF at hh
    cases hF : P.funcs[g]? with
    | none => rw [hF] at hh; cases hh
    | some F =>
      rw [hF] at hh
      have := ranksB_spec _ 0 hr g F (by simpa using hF) (by rw [Nat.zero_add]; exact hg)
      rw [Nat.zero_add] at this
      exact edgesB_spec _ this h hh
  have hS : ∀ x, x ∈ P.closure f → bitM S x = true := closure_sub (Q := fun x => bitM S x = true) (fun g hg h hh => (hE g hg h hh).1) hf
  unfold Program.recurses
  rw [hu, Bool.false_or]
  cases h : (P.closure f).any fun g => ((P.funcs[g]?).elim [] P.leadsTo).any fun h => (P.closure h).contains g with
  | false => rfl
  | true =>
    exfalso
    obtain ⟨g, hg, h⟩ := List.any_eq_true.1 h
    obtain ⟨k, hk, h⟩ := List.any_eq_true.1 h
    obtain ⟨h1, h2⟩ := hE g (hS g hg) k hk
    have hm : g ∈ P.closure k := by simpa using h
    have := closure_sub (Q := fun x => bitM S x = true ∧ rkOf R x ≤ rkOf R k) (fun a ha b hb => by
      obtain ⟨e1, e2⟩ := hE a ha.1 b hb
      exact ⟨e1, by omega⟩) (f := k) ⟨h1, Nat.le_refl _⟩ g hm
    omega
end
end Go.Proofs.YgvajwGreat.soundCold
