import Derived.Test.YgvajwGreatCk0
import Derived.Test.YgvajwGreatCk1
import Derived.Test.YgvajwGreatCk2
import Derived.Test.YgvajwGreatCk3
import Derived.Test.YgvajwGreatCk4
import Derived.Test.YgvajwGreatCk5
import Derived.Test.YgvajwGreatCk6
import Derived.Test.YgvajwGreatCk7
import Derived.Test.YgvajwGreatCk8
import Derived.Test.YgvajwGreatCk9
import Derived.Test.YgvajwGreatSt0
import Derived.Test.YgvajwGreatSt1
import Derived.Test.YgvajwGreatSt2
import Derived.Test.YgvajwGreatExt
import Derived.Test.YgvajwGreatSk
import Derived.Test.YgvajwGreatRows
import Derived.RowKit3
namespace Go.Proofs.YgvajwGreat.Ev
open Go.Proofs Go.RowKit
theorem all_nil {α : Type} {p : α → Prop} : ∀ x, x ∈ ([] : List α) → p x := fun x h => by cases h
theorem all_cons {α : Type} {p : α → Prop} {e : α} {l : List α} (h : p e) (hl : ∀ x, x ∈ l → p x) : ∀ x, x ∈ e :: l → p x := fun x hx => by
  rcases List.mem_cons.1 hx with rfl | hx
  · exact h
  · exact hl x hx
def entsC : List Ent := [en0, en1, en3, en5, en7, en9, en11, en13, en15, en17, en19, en21, en23, en25, en27, en29, en31, en33, en35, en37, en39, en41, en43, en45, en47, en49, en51, en53, en55, en57, en59, en61, en63, en65, en67, en69, en71, en73, en75, en77, en79, en81, en83, en85, en87, en89, en91, en93, en95, en97, en99, en101, en103, en105, en107, en109, en111, en113, en115, en117, en119, en121, en123, en125, en126]
def entsS : List Ent := [en2, en4, en6, en8, en10, en12, en14, en16, en18, en20, en22, en24, en26, en28, en30, en32, en34, en36, en38, en40, en42, en44, en46, en48, en50, en52, en54, en56, en58, en60, en62, en64, en66, en68, en70, en72, en74, en76, en78, en80, en82, en84, en86, en88, en90, en92, en94, en96, en98, en100, en102, en104, en106, en108, en110, en112, en114, en116, en118, en120, en122, en124]
theorem env_ok (t : Nat) : TIok Hvaj.prog t (env.ti t) := by
  by_cases h : t < 1024
  · exact tisB_spec 1024 tis t h
  · have e : env.ti t = bB (Nat.ble t 1023) (qget 5 TIN152 t) noTI := rfl
    have hb : Nat.ble t 1023 = false := by
      cases hb : Nat.ble t 1023 with
      | false => rfl
      | true => exact absurd (ble_t hb) (by omega)
    rw [e, hb, bB_f]
    exact noTI_ok t
theorem tab_ok (F : Func) (c : Code) (hF : Hvaj.prog.funcs[env.tab]? = some F) (hc : F.body = some c) : F.ntmps = 43 ∧ ∀ b, b ∈ loopsOf c → SkipOK Hvaj.prog b := by
  have e : env.tab = 342 := rfl
  rw [e, Hvaj.func342] at hF
  obtain rfl := Option.some.inj hF
  refine ⟨rfl, fun b hb => ?_⟩
  have hcd : Hvaj.f342.body.getD .skip = c := by rw [hc]; rfl
  have hl : loopsOf (Hvaj.f342.body.getD .skip) = [(loopsOf (Hvaj.f342.body.getD .skip)).headD .skip] := by kernel_rfl
  rw [← hcd, hl, List.mem_singleton] at hb
  rw [hb]
  exact skip_ok
theorem fnt_ok (f : Nat) : FCok Hvaj.prog f (fnt Hvaj.prog f) := by
  have e : fnt Hvaj.prog f = bB (Nat.beq (Nat.land (Nat.shiftRight execM f) 1) 1) (fcOf env f (nthF f Hvaj.prog.funcs.toList)) fcNo := rfl
  rw [e]
  cases Nat.beq (Nat.land (Nat.shiftRight execM f) 1) 1 with
  | false => exact .no
  | true =>
    rw [bB_t, nthF_eq, Array.getElem?_toList]
    exact fcOf_ok env_ok ext_ok mixed tab_ok
def PC (e : Ent) : Prop := EntOK (fnt Hvaj.prog) 58 9 e
def PS (e : Ent) : Prop := EntOK (fnt Hvaj.prog) 58 12 e
set_option maxRecDepth 100000 in
theorem okC : ∀ e, e ∈ entsC → PC e := all_cons (p := PC) ok0 (all_cons (p := PC) ok1 (all_cons (p := PC) ok3 (all_cons (p := PC) ok5 (all_cons (p := PC) ok7 (all_cons (p := PC) ok9 (all_cons (p := PC) ok11 (all_cons (p := PC) ok13 (all_cons (p := PC) ok15 (all_cons (p := PC) ok17 (all_cons (p := PC) ok19 (all_cons (p := PC) ok21 (all_cons (p := PC) ok23 (all_cons (p := PC) ok25 (all_cons (p := PC) ok27 (all_cons (p := PC) ok29 (all_cons (p := PC) ok31 (all_cons (p := PC) ok33 (all_cons (p := PC) ok35 (all_cons (p := PC) ok37 (all_cons (p := PC) ok39 (all_cons (p := PC) ok41 (all_cons (p := PC) ok43 (all_cons (p := PC) ok45 (all_cons (p := PC) ok47 (all_cons (p := PC) ok49 (all_cons (p := PC) ok51 (all_cons (p := PC) ok53 (all_cons (p := PC) ok55 (all_cons (p := PC) ok57 (all_cons (p := PC) ok59 (all_cons (p := PC) ok61 (all_cons (p := PC) ok63 (all_cons (p := PC) ok65 (all_cons (p := PC) ok67 (all_cons (p := PC) ok69 (all_cons (p := PC) ok71 (all_cons (p := PC) ok73 (all_cons (p := PC) ok75 (all_cons (p := PC) ok77 (all_cons (p := PC) ok79 (all_cons (p := PC) ok81 (all_cons (p := PC) ok83 (all_cons (p := PC) ok85 (all_cons (p := PC) ok87 (all_cons (p := PC) ok89 (all_cons (p := PC) ok91 (all_cons (p := PC) ok93 (all_cons (p := PC) ok95 (all_cons (p := PC) ok97 (all_cons (p := PC) ok99 (all_cons (p := PC) ok101 (all_cons (p := PC) ok103 (all_cons (p := PC) ok105 (all_cons (p := PC) ok107 (all_cons (p := PC) ok109 (all_cons (p := PC) ok111 (all_cons (p := PC) ok113 (all_cons (p := PC) ok115 (all_cons (p := PC) ok117 (all_cons (p := PC) ok119 (all_cons (p := PC) ok121 (all_cons (p := PC) ok123 (all_cons (p := PC) ok125 (all_cons (p := PC) ok126 (all_nil)))))))))))))))))))))))))))))))))))))))))))))))))))))))))))))))))
set_option maxRecDepth 100000 in
theorem okS : ∀ e, e ∈ entsS → PS e := all_cons (p := PS) ok2 (all_cons (p := PS) ok4 (all_cons (p := PS) ok6 (all_cons (p := PS) ok8 (all_cons (p := PS) ok10 (all_cons (p := PS) ok12 (all_cons (p := PS) ok14 (all_cons (p := PS) ok16 (all_cons (p := PS) ok18 (all_cons (p := PS) ok20 (all_cons (p := PS) ok22 (all_cons (p := PS) ok24 (all_cons (p := PS) ok26 (all_cons (p := PS) ok28 (all_cons (p := PS) ok30 (all_cons (p := PS) ok32 (all_cons (p := PS) ok34 (all_cons (p := PS) ok36 (all_cons (p := PS) ok38 (all_cons (p := PS) ok40 (all_cons (p := PS) ok42 (all_cons (p := PS) ok44 (all_cons (p := PS) ok46 (all_cons (p := PS) ok48 (all_cons (p := PS) ok50 (all_cons (p := PS) ok52 (all_cons (p := PS) ok54 (all_cons (p := PS) ok56 (all_cons (p := PS) ok58 (all_cons (p := PS) ok60 (all_cons (p := PS) ok62 (all_cons (p := PS) ok64 (all_cons (p := PS) ok66 (all_cons (p := PS) ok68 (all_cons (p := PS) ok70 (all_cons (p := PS) ok72 (all_cons (p := PS) ok74 (all_cons (p := PS) ok76 (all_cons (p := PS) ok78 (all_cons (p := PS) ok80 (all_cons (p := PS) ok82 (all_cons (p := PS) ok84 (all_cons (p := PS) ok86 (all_cons (p := PS) ok88 (all_cons (p := PS) ok90 (all_cons (p := PS) ok92 (all_cons (p := PS) ok94 (all_cons (p := PS) ok96 (all_cons (p := PS) ok98 (all_cons (p := PS) ok100 (all_cons (p := PS) ok102 (all_cons (p := PS) ok104 (all_cons (p := PS) ok106 (all_cons (p := PS) ok108 (all_cons (p := PS) ok110 (all_cons (p := PS) ok112 (all_cons (p := PS) ok114 (all_cons (p := PS) ok116 (all_cons (p := PS) ok118 (all_cons (p := PS) ok120 (all_cons (p := PS) ok122 (all_cons (p := PS) ok124 (all_nil))))))))))))))))))))))))))))))))))))))))))))))))))))))))))))))
/-- the functions, two of them looked up -/
def fnt2 (P : Program) : Nat → FC := fun f => bB (Nat.beq f 9) (orFC entsC) (bB (Nat.beq f 12) (orFC entsS) (fnt P f))
theorem ran : callN (fnt2 Hvaj.prog) 60 0 3 [] hp0 (fun _ rs _ => match rs with | [c] => Nat.beq c 25 | _ => false) = true := by kernel_rfl
theorem fnt2_ok (f : Nat) : FCok Hvaj.prog f (fnt2 Hvaj.prog f) := by
  have e : fnt2 Hvaj.prog f = bB (Nat.beq f 9) (orFC entsC) (bB (Nat.beq f 12) (orFC entsS) (fnt Hvaj.prog f)) := rfl
  rw [e]
  cases h1 : Nat.beq f 9 with
  | true =>
    rw [bB_t, beq_t h1]
    exact orFC_ok (n := 58) fnt_ok entsC okC
  | false =>
    rw [bB_f]
    cases h2 : Nat.beq f 12 with
    | true =>
      rw [bB_t, beq_t h2]
      exact orFC_ok (n := 58) fnt_ok entsS okS
    | false => rw [bB_f]; exact fnt_ok f
theorem walk (w : World) : Calls Hvaj.prog 3 #[] w fun e w' => e = .returned (.bool true) ∧ Grown w w' :=
  (run_true fnt2_ok ran w).mono fun e w' ⟨he, h1, h2, h3, h4, h5⟩ => by
    refine ⟨he, ⟨h1, h2, fun i hi => ?_⟩, h3, h4⟩
    rw [h5 i hi]
    cases hw : w.heap[i]? with
    | none => exact rfl
    | some o =>
      cases o with
      | cells c t fr => exact ⟨rfl, rfl, rfl, fun _ _ => rfl⟩
      | map es clock => exact .inr ⟨rfl, rfl⟩
      | _ => exact rfl
end Go.Proofs.YgvajwGreat.Ev
