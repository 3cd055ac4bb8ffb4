import Derived.Test.YtlndgaijekihiaaOwn6
import Derived.Test.YtlndgaijekihiaaProg
set_option maxRecDepth 100000
namespace Go.Proofs.Ytlndgaijekihiaa
open Go Go.D Go.Proofs
theorem eS_29 : ElemOf Try.prog 29 31 4 56 #[.int .i64 0, .int .i64 0, .string ⟨#[]⟩, .slice none 0 0] := by
 have hz : ∃ i z, Try.prog.info? 31 = some i ∧ i.zero = some z ∧ z.cells = ([.int .i64 0, .int .i64 0, .string ⟨#[]⟩, .slice none 0 0] : List Value).toArray := ⟨_, _, rfl, rfl, rfl⟩
 obtain ⟨i, z, h1, h2, h3⟩ := hz
 exact elemOf_mk (by decide +kernel) h1 h2 h3
theorem eS_32 : ElemOf Try.prog 32 99 5 64 #[.int .i64 0, .int .i64 0, .int .i64 0, .string ⟨#[]⟩, .slice none 0 0] := by
 have hz : ∃ i z, Try.prog.info? 99 = some i ∧ i.zero = some z ∧ z.cells = ([.int .i64 0, .int .i64 0, .int .i64 0, .string ⟨#[]⟩, .slice none 0 0] : List Value).toArray := ⟨_, _, rfl, rfl, rfl⟩
 obtain ⟨i, z, h1, h2, h3⟩ := hz
 exact elemOf_mk (by decide +kernel) h1 h2 h3
theorem eS_35 : ElemOf Try.prog 35 60 5 48 #[.int .i64 0, .string ⟨#[]⟩, .int .i64 0, .int .i64 0, .int .i64 0] := by
 have hz : ∃ i z, Try.prog.info? 60 = some i ∧ i.zero = some z ∧ z.cells = ([.int .i64 0, .string ⟨#[]⟩, .int .i64 0, .int .i64 0, .int .i64 0] : List Value).toArray := ⟨_, _, rfl, rfl, rfl⟩
 obtain ⟨i, z, h1, h2, h3⟩ := hz
 exact elemOf_mk (by decide +kernel) h1 h2 h3
theorem eS_44 : ElemOf Try.prog 44 50 3 32 #[.string ⟨#[]⟩, .int .i64 0, .int .i64 0] := by
 have hz : ∃ i z, Try.prog.info? 50 = some i ∧ i.zero = some z ∧ z.cells = ([.string ⟨#[]⟩, .int .i64 0, .int .i64 0] : List Value).toArray := ⟨_, _, rfl, rfl, rfl⟩
 obtain ⟨i, z, h1, h2, h3⟩ := hz
 exact elemOf_mk (by decide +kernel) h1 h2 h3
theorem eS_46 : ElemOf Try.prog 46 47 1 24 #[.slice none 0 0] := by
 have hz : ∃ i z, Try.prog.info? 47 = some i ∧ i.zero = some z ∧ z.cells = ([.slice none 0 0] : List Value).toArray := ⟨_, _, rfl, rfl, rfl⟩
 obtain ⟨i, z, h1, h2, h3⟩ := hz
 exact elemOf_mk (by decide +kernel) h1 h2 h3
theorem eS_47 : ElemOf Try.prog 47 3 1 8 #[.int .i64 0] := by
 have hz : ∃ i z, Try.prog.info? 3 = some i ∧ i.zero = some z ∧ z.cells = ([.int .i64 0] : List Value).toArray := ⟨_, _, rfl, rfl, rfl⟩
 obtain ⟨i, z, h1, h2, h3⟩ := hz
 exact elemOf_mk (by decide +kernel) h1 h2 h3
theorem eS_73 : ElemOf Try.prog 73 88 10 136 #[.int .i64 0, .int .i64 0, .string ⟨#[]⟩, .slice none 0 0, .slice none 0 0, .int .i64 0, .slice none 0 0, .int .i64 0, .int .i64 0, .bool false] := by
 have hz : ∃ i z, Try.prog.info? 88 = some i ∧ i.zero = some z ∧ z.cells = ([.int .i64 0, .int .i64 0, .string ⟨#[]⟩, .slice none 0 0, .slice none 0 0, .int .i64 0, .slice none 0 0, .int .i64 0, .int .i64 0, .bool false] : List Value).toArray := ⟨_, _, rfl, rfl, rfl⟩
 obtain ⟨i, z, h1, h2, h3⟩ := hz
 exact elemOf_mk (by decide +kernel) h1 h2 h3
theorem eS_105 : ElemOf Try.prog 105 115 2 16 #[.int .i64 0, .int .i64 0] := by
 have hz : ∃ i z, Try.prog.info? 115 = some i ∧ i.zero = some z ∧ z.cells = ([.int .i64 0, .int .i64 0] : List Value).toArray := ⟨_, _, rfl, rfl, rfl⟩
 obtain ⟨i, z, h1, h2, h3⟩ := hz
 exact elemOf_mk (by decide +kernel) h1 h2 h3
theorem eS_106 : ElemOf Try.prog 106 115 2 16 #[.int .i64 0, .int .i64 0] := by
 have hz : ∃ i z, Try.prog.info? 115 = some i ∧ i.zero = some z ∧ z.cells = ([.int .i64 0, .int .i64 0] : List Value).toArray := ⟨_, _, rfl, rfl, rfl⟩
 obtain ⟨i, z, h1, h2, h3⟩ := hz
 exact elemOf_mk (by decide +kernel) h1 h2 h3
end Go.Proofs.Ytlndgaijekihiaa
