import Derived.Test.YgvajwGreatOps15
namespace Go.Proofs.YgvajwGreat.Ev
variable {P : Program}
/-! append -/
/-- what is appended: n elements, their cells 'news' -/
def AppArg (P : Program) (w : World) (u : TypeId) (i : TypeInfo) (z : Value) (x : Value) (n : Nat) (news : List Value) : Prop :=
  news.length = n * i.size ∧
  ((∃ d, P.underlying u = some d ∧ (∀ k, d ≠ .int k) ∧ ((x = .slice none 0 0 ∧ n = 0) ∨ ∃ a c, x = .slice (some a) n c ∧ ∀ j v, news[j]? = some v → w.cell? (a.add j) = some v)) ∨
   (∃ k kk, P.underlying u = some (.int k) ∧ x = .int kk (n : Int) ∧ n ≤ 8000000 ∧ (n * i.size ≠ 0 → news = (Builtin.zeroCells z.cells n).toList)))
theorem run_app_room {w w' : World} {t u ty e : TypeId} {i : TypeInfo} {z x : Value} {base : Option Addr} {sLen sCap n : Nat} {news : List Value}
    (ht : P.underlying t = some (.slice e)) (hi : P.info? e = some i) (hz : i.zero = some z) (hb : i.bytes ≤ 1048576) (hx : AppArg P w u i z x n news)
    (hroom : sLen + n ≤ sCap) (hst : match base with | none => w' = w | some a => (storeCells (a.add (sLen * i.size)) news).run P w = .ok () w') :
    (Builtin.append_ #[t, u] ty #[.slice base sLen sCap, x]).run P w = .ok (.slice base (sLen + n) sCap) w' := by
  obtain ⟨hl, hx⟩ := hx
  rcases hx with ⟨d, hu, hd, hx⟩ | ⟨k, kk, hu, rfl, hn, hnews⟩
  · rcases hx with ⟨rfl, rfl⟩ | ⟨a, c, rfl, hnews⟩
    · have hnil : news = [] := List.eq_nil_of_length_eq_zero (by simpa using hl)
      subst hnil
      cases base with
      | none => simp only at hst; subst hst; simp at hroom; simp [Builtin.append_, run_underlying ht, run_underlying hu, sizeOf, typeInfo, hi, Builtin.lenOf, hroom, Builtin.firstCells]
      | some b => simp only at hst; simp at hroom; simp [Builtin.append_, run_underlying ht, run_underlying hu, sizeOf, typeInfo, hi, Builtin.lenOf, hroom, Builtin.firstCells, hst]
    · have hf := run_firstCells_some (P := P) w i.size n a n c news hl hnews
      cases base with
      | none => simp only at hst; subst hst; simp [Builtin.append_, run_underlying ht, run_underlying hu, sizeOf, typeInfo, hi, Builtin.lenOf, hroom, hf]
      | some b => simp only at hst; simp [Builtin.append_, run_underlying ht, run_underlying hu, sizeOf, typeInfo, hi, Builtin.lenOf, hroom, hf, hst]
  · have hw : IntKind.i64.wrap (n : Int) = n := by rw [IntKind.wrap_i64]; omega
    have hneg : ¬ ((n : Int) < 0) := by omega
    have hbb : ¬ (281474976710656 < (n : Int) * (i.bytes : Int)) := by
      have : n * i.bytes ≤ 8000000 * 1048576 := Nat.mul_le_mul hn hb
      have h2 : ((n * i.bytes : Nat) : Int) ≤ 281474976710656 := by omega
      rw [Int.natCast_mul] at h2; omega
    by_cases h0 : n * i.size = 0
    · have hnil : news = [] := List.eq_nil_of_length_eq_zero (by rw [hl, h0])
      subst hnil
      cases base with
      | none => simp only at hst; subst hst; simp [Builtin.append_, run_underlying ht, run_underlying hu, sizeOf, typeInfo, hi, asInt, asIntOf, hw, hneg, hbb, hroom, h0]
      | some b => simp only at hst; simp [Builtin.append_, run_underlying ht, run_underlying hu, sizeOf, typeInfo, hi, asInt, asIntOf, hw, hneg, hbb, hroom, h0, hst]
    · rw [hnews h0] at hst
      cases base with
      | none => simp only at hst; subst hst; simp [Builtin.append_, run_underlying ht, run_underlying hu, sizeOf, typeInfo, zeroValue, hi, hz, asInt, asIntOf, hw, hneg, hbb, hroom]
      | some b => simp only at hst; simp [Builtin.append_, run_underlying ht, run_underlying hu, sizeOf, typeInfo, zeroValue, hi, hz, asInt, asIntOf, hw, hneg, hbb, hroom, h0, hst]
theorem run_app_grow {w : World} {t u ty e : TypeId} {i : TypeInfo} {z x : Value} {base : Option Addr} {sLen sCap n : Nat} {news olds : List Value}
    (ht : P.underlying t = some (.slice e)) (hi : P.info? e = some i) (hz : i.zero = some z) (hb : i.bytes ≤ 1048576) (hx : AppArg P w u i z x n news)
    (hg : sCap < sLen + n) (hn24 : sLen + n ≤ 33554432) (hlo : olds.length = sLen * i.size)
    (hold : match base with | none => sLen = 0 | some a => ∀ j v, olds[j]? = some v → w.cell? (a.add j) = some v) :
    (Builtin.append_ #[t, u] ty #[.slice base sLen sCap, x]).run P w = .ok (.slice (some ⟨w.heap.size, 0, none⟩) (sLen + n) (grownCap w (sLen + n) sCap e))
        (w.drew.alloc (.cells (olds.toArray ++ news.toArray ++ Builtin.zeroCells z.cells (grownCap w (sLen + n) sCap e - (sLen + n))) e)) := by
  obtain ⟨hl, hx⟩ := hx
  have hn : ¬ (sLen + n ≤ sCap) := by omega
  have h63' : ¬ (9223372036854775807 < ((sLen : Int) + (n : Int))) := by omega
  have h48' : ¬ (281474976710656 < Builtin.nextslicecap (sLen + n) sCap * i.bytes) := by
    have := growslice_fits (need := sLen + n) (old := sCap) (bytes := i.bytes) hg (by
      have : (sLen + n) * i.bytes ≤ 33554432 * 1048576 := Nat.mul_le_mul hn24 hb
      omega)
    omega
  have hfo : (Builtin.firstCells i.size sLen (.slice base sLen sCap)).run P w.drew = .ok olds.toArray w.drew := by
    cases base with
    | none =>
      simp only at hold
      subst hold
      have : olds = [] := List.eq_nil_of_length_eq_zero (by simpa using hlo)
      subst this
      exact run_firstCells_none _ _ _ _ _
    | some a => exact run_firstCells_some (P := P) w.drew i.size sLen a sLen sCap olds hlo (by simpa using hold)
  rcases hx with ⟨d, hu, hd, hx⟩ | ⟨k, kk, hu, rfl, hn8, hnews⟩
  · have hf : (Builtin.firstCells i.size n x).run P w.drew = .ok news.toArray w.drew := by
      rcases hx with ⟨rfl, rfl⟩ | ⟨a, c, rfl, hnews⟩
      · have : news = [] := List.eq_nil_of_length_eq_zero (by simpa using hl)
        subst this
        exact run_firstCells_none _ _ _ _ _
      · exact run_firstCells_some (P := P) w.drew i.size n a n c news hl (by simpa using hnews)
    have hlen : ∀ w, (Builtin.lenOf x).run P w = .ok n w := fun w => by
      rcases hx with ⟨rfl, rfl⟩ | ⟨a, c, rfl, hnews⟩ <;> simp [Builtin.lenOf]
    simp [Builtin.append_, run_underlying ht, run_underlying hu, sizeOf, typeInfo, zeroValue, hi, hz, hlen, hn, h63', h48', Question.forced, hf, hfo, Go.newRow, grownCap]
    congr 2
    apply Array.ext'
    simp [List.append_assoc]
  · have hw : IntKind.i64.wrap (n : Int) = n := by rw [IntKind.wrap_i64]; omega
    have hneg : ¬ ((n : Int) < 0) := by omega
    have hbb : ¬ (281474976710656 < (n : Int) * (i.bytes : Int)) := by
      have : n * i.bytes ≤ 8000000 * 1048576 := Nat.mul_le_mul hn8 hb
      have h2 : ((n * i.bytes : Nat) : Int) ≤ 281474976710656 := by omega
      rw [Int.natCast_mul] at h2; omega
    by_cases h0 : n * i.size = 0
    · have hnil : news = [] := List.eq_nil_of_length_eq_zero (by rw [hl, h0])
      subst hnil
      simp [Builtin.append_, run_underlying ht, run_underlying hu, sizeOf, typeInfo, zeroValue, hi, hz, asInt, asIntOf, hw, hneg, hbb, hn, h63', h48', Question.forced, hfo, Go.newRow, grownCap, h0]
    · rw [hnews h0]
      simp [Builtin.append_, run_underlying ht, run_underlying hu, sizeOf, typeInfo, zeroValue, hi, hz, asInt, asIntOf, hw, hneg, hbb, hn, h63', h48', Question.forced, hfo, Go.newRow, grownCap, h0]
end Go.Proofs.YgvajwGreat.Ev
