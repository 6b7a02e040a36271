import Derived.Test.YgvajwGreatAp4
namespace Go.Proofs.YgvajwGreat.Ev
variable {P : Program}
theorem cell_shr1 (X i : Nat) : cell (X >>> 128) i = cell X (i + 1) := by
  unfold cell
  rw [← Nat.shiftRight_add, show 128 + 128 * i = 128 * (i + 1) by omega]
theorem cell_zero_eq (X : Nat) : cell X 0 = X % 2 ^ 128 := rfl
theorem bytesN_inv : ∀ (n X acc : Nat) {k : Nat → Bool}, bytesN n X acc k = true → ∃ s, (∀ k', bytesN n X acc k' = k' s) ∧ k s = true ∧
    ∀ (g : Gh) (f : Nat → Value), (∀ j, j < n → RelC g (cell X j) (f j)) → ∃ ns : List Int, ns.length = n ∧ (∀ j, j < n → f j = .int .u8 (ns.getD j 0)) ∧ s = beBytes (ns.map fun z => UInt8.ofNat z.toNat) acc
  | 0, X, acc, k, h => ⟨acc, fun _ => rfl, h, fun g f _ => ⟨[], rfl, fun j hj => by omega, rfl⟩⟩
  | n + 1, X, acc, k, h => by
    have e : ∀ k', bytesN (n + 1) X acc k' = bB (Nat.beq (tag (X % 2 ^ 128)) 1) (bytesN n (X >>> 128) (acc * 256 + pay (X % 2 ^ 128)) k') false := fun k' => by
      show (fN (Nat.mod X 340282366920938463463374607431768211456) fun c => bB (Nat.beq (tag c) 1) (fN (Nat.add (Nat.mul acc 256) (pay c)) fun acc => bytesN n (Nat.shiftRight X 128) acc k') false) = _
      rw [fN_eq, fN_eq]
      rfl
    rw [e] at h
    obtain ⟨h1, h2⟩ := bB_and.1 h
    obtain ⟨s, e2, h3, hs⟩ := bytesN_inv n _ _ h2
    refine ⟨s, fun k' => by rw [e, h1, bB_t, e2], h3, fun g f hf => ?_⟩
    obtain ⟨z, hz, iz⟩ := (hf 0 (by omega)).intOf (k := .u8) (by rw [cell_zero_eq]; exact beq_t h1)
    rw [cell_zero_eq] at iz
    obtain ⟨rfl, lz⟩ := isI_u rfl iz
    obtain ⟨ns, n1, n2, n3⟩ := hs g (fun j => f (j + 1)) (fun j hj => by rw [cell_shr1]; exact hf (j + 1) (by omega))
    refine ⟨((pay (X % 2 ^ 128) : Nat) : Int) :: ns, by simp [n1], fun j hj => ?_, ?_⟩
    · cases j with
      | zero => exact hz
      | succ j =>
        have := n2 j (by omega)
        simpa using this
    · rw [n3]
      show _ = beBytes (ns.map fun z => UInt8.ofNat z.toNat) (acc * 256 + (UInt8.ofNat ((pay (X % 2 ^ 128) : Nat) : Int).toNat).toNat)
      have lz' : pay (X % 2 ^ 128) < 256 := lz
      rw [Int.toNat_natCast, UInt8.toNat_ofNat_of_lt' lz']
theorem push_data : ∀ (ns : List Int) (s : ByteArray), (ns.foldl (fun r n => r.push (UInt8.ofNat n.toNat)) s).data.toList = s.data.toList ++ ns.map fun z => UInt8.ofNat z.toNat
  | [], s => by simp
  | n :: ns, s => by
    rw [List.foldl_cons, push_data ns]
    simp [ByteArray.push]
section
variable {o : Oper} {cf : CallF} {dr : Option Nat} {r0 q v : Nat} {a : List Bnd} {H : Hp} {kk : K}
theorem str_ok {E : Nat → TI} (hE : ∀ t, TIok P t (E t)) {s t : TypeId} {x : Operand} (hs : (E s).k = 3) (h8 : (E (E s).el).ik = 1) (ht : (E t).k = 6) (ho : o.op = .convert s t x)
    (hr : (cStr (cOv x) (cPt o.dst)).run cf r0 q v a H kk = true) : OpOK P (cStr (cOv x) (cPt o.dst)) cf dr r0 q v a H o := by
  have hops : o.op.operands.toList = [x] := by rw [ho]; rfl
  have hus := (hE s).kind.2.2.1 hs
  have hut := (hE t).kind.2.2.2.2.2.1 ht
  obtain ⟨k, hue, hke⟩ := (hE (E s).el).kind.2.2.2.2.1 ((hE (E s).el).ik (by omega))
  have hk8 : k = .u8 := by cases k <;> first | rfl | (rw [h8] at hke; exact absurd hke (by decide))
  subst hk8
  have e : ∀ k', (cStr (cOv x) (cPt o.dst)).run cf r0 q v a H k' = (cOv x).get v a fun c => bB (Nat.beq (tag c) 13) (ldN H (sAddr c) (sLen c) fun X => bytesN (sLen c) X 0 fun s =>
      (cPt o.dst).pg (enc 14 (sLen c + 4294967296 * s)) [] q v a H k') false := fun k' => by
    show ((cOv x).get v a fun c => bB (Nat.beq (tag c) 13) (fN (sLen c) fun n => ldN H (sAddr c) n fun X => bytesN n X 0 fun s => fN (enc 14 (Nat.add n (Nat.mul 4294967296 s))) fun r => (cPt o.dst).pg r [] q v a H k') false) = _
    simp only [fN_eq]
    rfl
  rw [e] at hr
  obtain ⟨cc, xc, ec, hr, sc, _⟩ := get_inv hr
  obtain ⟨h1, hr⟩ := bB_and.1 hr
  have hld := hr
  obtain ⟨_, _, e3, h4⟩ := ldN_inv hr
  obtain ⟨s', e5, _, hby⟩ := bytesN_inv _ _ _ h4
  obtain ⟨q', v', a', p1, p2⟩ := pg_put o.dst (enc 14 (sLen cc + 4294967296 * s')) [] q v a H
  refine pureA (fun k' => by rw [e, ec, h1, bB_t, e3, e5, p1]) p2 (fun g w act hO hH => ?_)
  rw [hops] at hO
  obtain ⟨b, n, m, hb, hc⟩ := relA_sl (sc g act hO) (beq_t h1)
  have hn : sLen cc = n := hc.slAddr.2.1
  subst hn
  obtain ⟨x3, f, x4⟩ := ld_sound hc.slAddr.1 hH hld
  obtain ⟨ns, n1, n2, n3⟩ := hby g f (fun j hj => (x4 j hj).2)
  have hload : (loadCells b (sLen cc)).run P w = .ok (ns.map (Value.int .u8)).toArray w := by
    have := run_loadCells (P := P) w b (sLen cc) f (fun j hj => (x4 j hj).1)
    rw [this]
    congr 2
    apply List.ext_getElem?
    intro i
    rw [List.getElem?_map, List.getElem?_map]
    by_cases hi : i < sLen cc
    · rw [List.getElem?_range hi]
      have := n2 i hi
      rw [List.getD_eq_getElem?_getD] at this
      have hni : ns[i]? = some ns[i] := List.getElem?_eq_getElem (by omega)
      rw [hni] at this ⊢
      simpa using this
    · rw [List.getElem?_eq_none (by simpa using hi), List.getElem?_eq_none (by omega)]
      rfl
  have hdata := push_data ns ByteArray.empty
  have hd : (ns.foldl (fun r n => r.push (UInt8.ofNat n.toNat)) ByteArray.empty).data.toList = ns.map fun z => UInt8.ofNat z.toNat := by rw [hdata]; rfl
  have hsize : (ns.foldl (fun r n => r.push (UInt8.ofNat n.toNat)) ByteArray.empty).size = sLen cc := by
    show (ns.foldl (fun r n => r.push (UInt8.ofNat n.toNat)) ByteArray.empty).data.size = sLen cc
    rw [← Array.length_toList, hd, List.length_map, n1]
  refine ⟨.string (ns.foldl (fun r n => r.push (UInt8.ofNat n.toNat)) ByteArray.empty), ?_, .inr ⟨rfl, .inl ⟨?_, ?_⟩⟩⟩
  · simp [execOp, ho, hb, run_convert_bytes_string w s t _ (some b) (sLen cc) m hus hue hut, run_bytesToString w b (sLen cc) m ns hload]
  · rw [hsize, hd, ← n3]
  · rw [hsize]
    have := hc.slAddr.2.2.2.2
    omega
end
end Go.Proofs.YgvajwGreat.Ev
