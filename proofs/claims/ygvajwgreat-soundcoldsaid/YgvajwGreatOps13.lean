import Derived.Test.YgvajwGreatOps12
namespace Go.Proofs.YgvajwGreat.Ev
variable {P : Program}
/-! parts laid over a row -/
theorem foldl_set_size (vs : List (Value × Nat)) (o : Nat) : ∀ cs : Array Value, (vs.foldl (fun cs (x : Value × Nat) => cs.setIfInBounds (o + x.2) x.1) cs).size = cs.size := by
  induction vs with
  | nil => intro cs; rfl
  | cons x xs ih => intro cs; rw [List.foldl_cons, ih]; simp
theorem foldl_set_get (vs : List Value) : ∀ (o s : Nat) (cs : Array Value), o + s + vs.length ≤ cs.size → ∀ i,
    ((vs.zipIdx s).foldl (fun cs (x : Value × Nat) => cs.setIfInBounds (o + x.2) x.1) cs)[i]? = if o + s ≤ i ∧ i < o + s + vs.length then vs[i - (o + s)]? else cs[i]? := by
  induction vs with
  | nil => intro o s cs h i; rw [if_neg (by simp)]; rfl
  | cons x xs ih =>
    intro o s cs h i
    simp only [List.length_cons] at h ⊢
    rw [List.zipIdx_cons, List.foldl_cons, ih o (s + 1) _ (by simp; omega)]
    by_cases h1 : o + s = i
    · subst h1
      rw [if_neg (by omega), if_pos (by omega)]
      simp only [Nat.sub_self, List.getElem?_cons_zero]
      rw [Array.getElem?_setIfInBounds_self_of_lt (by omega)]
    · by_cases h2 : o + (s + 1) ≤ i ∧ i < o + (s + 1) + xs.length
      · rw [if_pos h2, if_pos (by omega)]
        rw [show i - (o + s) = (i - (o + (s + 1))) + 1 by omega, List.getElem?_cons_succ]
      · rw [if_neg h2, if_neg (by omega)]
        rw [Array.getElem?_setIfInBounds_ne h1]
theorem fill_step (v : Array Value) (o : Nat) (cs : Array Value) (h : o + v.size ≤ cs.size) :
    (v.zipIdx.foldl (fun cs (x : Value × Nat) => cs.setIfInBounds (o + x.2) x.1) cs).size = cs.size ∧
    ∀ i, (v.zipIdx.foldl (fun cs (x : Value × Nat) => cs.setIfInBounds (o + x.2) x.1) cs)[i]? = if o ≤ i ∧ i < o + v.size then v[i - o]? else cs[i]? := by
  have e : v.zipIdx.foldl (fun cs (x : Value × Nat) => cs.setIfInBounds (o + x.2) x.1) cs = (v.toList.zipIdx 0).foldl (fun cs (x : Value × Nat) => cs.setIfInBounds (o + x.2) x.1) cs := by
    rw [← Array.foldl_toList, Array.toList_zipIdx]
  rw [e]
  refine ⟨foldl_set_size _ _ _, fun i => ?_⟩
  have := foldl_set_get v.toList o 0 cs (by simpa using h) i
  simpa using this
/-- the places of parts, the operands beside them -/
def placesO (T : TI) (E : Nat) : List (Nat × Operand) → Option (List (Nat × Nat × Operand))
  | [] => some []
  | (i, x) :: ps => match (if T.k = 1 then T.offs[i]? else some (i * E, E) : Option (Nat × Nat)), placesO T E ps with
    | some (o, n), some r => if o + n ≤ T.sz then some ((o, n, x) :: r) else none
    | _, _ => none
theorem places_eq (T : TI) (E : Nat) : ∀ ps, places T E ps = (placesO T E ps).map (List.map fun (o, n, x) => (o, n, cOv x))
  | [] => rfl
  | (i, x) :: ps => by
    unfold places placesO
    rw [places_eq T E ps, bB_eq]
    have : (if Nat.beq T.k 1 = true then T.offs[i]? else some (i * E, E)) = (if T.k = 1 then T.offs[i]? else some (i * E, E)) := by
      by_cases h : T.k = 1
      · rw [h]; rfl
      · rw [nbeq h, if_neg h]; rfl
    rw [this]
    cases (if T.k = 1 then T.offs[i]? else some (i * E, E)) with
    | none => rfl
    | some on =>
      obtain ⟨o, n⟩ := on
      cases placesO T E ps with
      | none => rfl
      | some r =>
        simp only [Option.map_some]
        by_cases h : o + n ≤ T.sz
        · rw [if_pos h, show Nat.ble (o + n) T.sz = true from Nat.ble_eq_true_of_le h, bB_t, fN_eq, fN_eq]; rfl
        · rw [if_neg h, show Nat.ble (o + n) T.sz = false by (cases hb : Nat.ble (o + n) T.sz; rfl; exact absurd (ble_t hb) h), bB_f]; rfl
/-- laying: what comes out -/
theorem lay_inv {v : Nat} {a : List Bnd} {N : Nat} : ∀ {ps : List (Nat × Nat × Operand)} {X : Nat} {k : Nat → Bool}, lay (ps.map fun (o, n, x) => (o, n, cOv x)) v a X k = true →
    X < 2 ^ (128 * N) → (∀ o n x, (o, n, x) ∈ ps → o + n ≤ N) →
    ∃ Y, (∀ k', lay (ps.map fun (o, n, x) => (o, n, cOv x)) v a X k' = k' Y) ∧ k Y = true ∧ (∀ g (act : Act), (∀ o n x, (o, n, x) ∈ ps → RelO g v a act.tmps (tmpsOf [x])) → Y < 2 ^ (128 * N)) ∧
      ∀ g (act : Act) (cs : Array Value), (∀ o n x, (o, n, x) ∈ ps → RelO g v a act.tmps (tmpsOf [x])) → cs.size = N → (∀ i v, cs[i]? = some v → RelC g (cell X i) v) →
        ∃ out : Array Value, out.size = N ∧ (∀ i v, out[i]? = some v → RelC g (cell Y i) v) ∧
          ∀ place : Nat → Option (Nat × Nat), ∀ is : List Nat, is.length = ps.length → (∀ (j i o n : Nat) (x : Operand), is[j]? = some i → ps[j]? = some (o, n, x) → place i = some (o, n)) →
            Instr.fill place cs ((is.zip ps).map fun (i, _, _, x) => (i, act.eval x)) = some out
  | [], X, k, h, hX, _ => ⟨X, fun _ => rfl, h, fun _ _ _ => hX, fun g act cs _ hs hc => ⟨cs, hs, hc, fun place is hl _ => by
      cases is with
      | nil => rfl
      | cons => simp at hl⟩⟩
  | (o, n, x) :: ps, X, k, h, hX, hN => by
    have e : ∀ k', lay (((o, n, x) :: ps).map fun (o, n, x) => (o, n, cOv x)) v a X k' = (cOv x).get v a fun c => cellsOf n c fun Y => lay (ps.map fun (o, n, x) => (o, n, cOv x)) v a (spl X o n Y) k' := fun k' => by
      rw [List.map_cons]
      show ((cOv x).get v a fun c => cellsOf n c fun Y => fN (spl X o n Y) fun X => lay (ps.map fun (o, n, x) => (o, n, cOv x)) v a X k') = _
      simp only [fN_eq]
    rw [e] at h
    obtain ⟨cc, xc, ec, h1, sc, bd⟩ := get_inv h
    obtain ⟨X1, eX, h2, _, lX, sX⟩ := cells_inv h1
    have hon := hN o n x (by simp)
    have hX1 := lX bd
    obtain ⟨Y, e3, h3, h4, h5⟩ := lay_inv h2 (spl_lt hX1 hX hon) (fun o n x hm => hN o n x (by simp [hm]))
    refine ⟨Y, fun k' => by rw [e, ec, eX, e3], h3, fun g act hO => h4 g act (fun o n x hm => hO o n x (by simp [hm])), fun g act cs hO hs hc => ?_⟩
    obtain ⟨c1, c2, c3⟩ := sX g xc _ (sc g act (hO o n x (by simp)))
    obtain ⟨f1, f2⟩ := fill_step (act.eval x).cells o cs (by omega)
    obtain ⟨out, o1, o2, o3⟩ := h5 g act ((act.eval x).cells.zipIdx.foldl (fun cs (x : Value × Nat) => cs.setIfInBounds (o + x.2) x.1) cs) (fun o n x hm => hO o n x (by simp [hm])) (by omega) (fun i v hv => by
      rw [f2 i] at hv
      rw [cell_spl c2]
      by_cases hi : o ≤ i ∧ i < o + n
      · rw [if_pos (by omega)] at hv; rw [if_pos hi]; exact c3 _ _ hv
      · rw [if_neg (by omega)] at hv; rw [if_neg hi]; exact hc _ _ hv)
    refine ⟨out, o1, o2, fun place is hl hp => ?_⟩
    cases is with
    | nil => simp at hl
    | cons i is =>
      have hpl := hp 0 i o n x rfl rfl
      show Instr.fill place cs ((i, act.eval x) :: _) = _
      unfold Instr.fill
      rw [hpl]
      have hcond : ¬ ((decide ((act.eval x).cells.size ≠ n) || decide (o + (act.eval x).cells.size > cs.size)) = true) := by
        simp [c1]; omega
      simp only
      rw [if_neg hcond]
      exact o3 place is (by simpa using hl) (fun j i o n x h1 h2 => hp (j + 1) i o n x (by simpa using h1) (by simpa using h2))
end Go.Proofs.YgvajwGreat.Ev
