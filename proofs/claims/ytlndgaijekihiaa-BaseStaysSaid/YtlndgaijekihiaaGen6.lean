import Derived.Test.YtlndgaijekihiaaGenC
set_option maxRecDepth 100000
set_option linter.unusedVariables false
namespace Go.Proofs.Ytlndgaijekihiaa
open Go Go.D Go.Proofs
def F_term_bare (t0 : Int) (t1 : Int) (t2 : ByteArray) (t3P : Option Addr) (t3N : Nat) (t3C : Nat) (w : World) (R : Bool → World → Prop) : Prop :=
 New w (.cells #[.int .i64 t0, .int .i64 t1, .string t2, .slice t3P t3N t3C] 31) fun r w1 =>
 ∃ S, w1.cell? (Addr.add ⟨r, 0, none⟩ 2) = some (.string S) ∧
 If (S.toList == (⟨#[]⟩ : ByteArray).toList)
 (∃ LP LN LC, w1.cell? (Addr.add ⟨r, 0, none⟩ 3) = some (.slice LP LN LC) ∧
 R ((LN : Int) == (0 : Int)) w1)
 (R false w1)
theorem C_term_bare.of {t0 : Int} {t1 : Int} {t2 : ByteArray} {t3P : Option Addr} {t3N : Nat} {t3C : Nat} {w : World} {R : Bool → World → Prop} (h : F_term_bare t0 t1 t2 t3P t3N t3C w R) : C_term_bare t0 t1 t2 t3P t3N t3C w R := ofS2 (Fm := F_term_bare t0 t1 t2 t3P t3N t3C w) Try.func97 (by kernel_rfl) (L0 Try.f97) rfl (fun _ => by kernel_rfl) h
end Go.Proofs.Ytlndgaijekihiaa
