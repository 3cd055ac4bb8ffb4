import Derived.Test.YtdaenijbokialaaGreatOwn6
import Derived.Test.YtdaenijbokialaaGreatProg
set_option maxRecDepth 100000
namespace Go.Proofs.YtdaenijbokialaaGreat
open Go Go.D Go.Proofs
theorem Zrf:ElemOf Tryz.prog 22 31 4 56 #[.int .i64 0,.int .i64 0,.string ⟨#[]⟩,.slice none 0 0]:=by
 have hz:∃i z,Tryz.prog.info? 31=some i∧i.zero=some z∧z.cells=([.int .i64 0,.int .i64 0,.string ⟨#[]⟩,.slice none 0 0]:List Value).toArray:=⟨_,_,rfl,rfl,rfl⟩
 obtain⟨i,z,h1,h2,h3⟩:=hz
 exact Zj3 (by decide +kernel) h1 h2 h3
theorem ZsL:ElemOf Tryz.prog 36 32 1 8 #[.int .u64 0]:=by
 have hz:∃i z,Tryz.prog.info? 32=some i∧i.zero=some z∧z.cells=([.int .u64 0]:List Value).toArray:=⟨_,_,rfl,rfl,rfl⟩
 obtain⟨i,z,h1,h2,h3⟩:=hz
 exact Zj3 (by decide +kernel) h1 h2 h3
theorem Zq0:ElemOf Tryz.prog 55 3 1 8 #[.int .i64 0]:=by
 have hz:∃i z,Tryz.prog.info? 3=some i∧i.zero=some z∧z.cells=([.int .i64 0]:List Value).toArray:=⟨_,_,rfl,rfl,rfl⟩
 obtain⟨i,z,h1,h2,h3⟩:=hz
 exact Zj3 (by decide +kernel) h1 h2 h3
theorem Zvi:ElemOf Tryz.prog 145 169 2 32 #[.int .i64 0,.slice none 0 0]:=by
 have hz:∃i z,Tryz.prog.info? 169=some i∧i.zero=some z∧z.cells=([.int .i64 0,.slice none 0 0]:List Value).toArray:=⟨_,_,rfl,rfl,rfl⟩
 obtain⟨i,z,h1,h2,h3⟩:=hz
 exact Zj3 (by decide +kernel) h1 h2 h3
theorem Zxh:ElemOf Tryz.prog 149 216 5 64 #[.int .i64 0,.int .i64 0,.int .i64 0,.string ⟨#[]⟩,.slice none 0 0]:=by
 have hz:∃i z,Tryz.prog.info? 216=some i∧i.zero=some z∧z.cells=([.int .i64 0,.int .i64 0,.int .i64 0,.string ⟨#[]⟩,.slice none 0 0]:List Value).toArray:=⟨_,_,rfl,rfl,rfl⟩
 obtain⟨i,z,h1,h2,h3⟩:=hz
 exact Zj3 (by decide +kernel) h1 h2 h3
theorem ZvG:ElemOf Tryz.prog 167 225 2 16 #[.int .i64 0,.int .i64 0]:=by
 have hz:∃i z,Tryz.prog.info? 225=some i∧i.zero=some z∧z.cells=([.int .i64 0,.int .i64 0]:List Value).toArray:=⟨_,_,rfl,rfl,rfl⟩
 obtain⟨i,z,h1,h2,h3⟩:=hz
 exact Zj3 (by decide +kernel) h1 h2 h3
theorem Zx3:ElemOf Tryz.prog 170 9 1 16 #[.string ⟨#[]⟩]:=by
 have hz:∃i z,Tryz.prog.info? 9=some i∧i.zero=some z∧z.cells=([.string ⟨#[]⟩]:List Value).toArray:=⟨_,_,rfl,rfl,rfl⟩
 obtain⟨i,z,h1,h2,h3⟩:=hz
 exact Zj3 (by decide +kernel) h1 h2 h3
theorem ZuF:ElemOf Tryz.prog 187 200 3 24 #[.string ⟨#[]⟩,.bool false,.bool false]:=by
 have hz:∃i z,Tryz.prog.info? 200=some i∧i.zero=some z∧z.cells=([.string ⟨#[]⟩,.bool false,.bool false]:List Value).toArray:=⟨_,_,rfl,rfl,rfl⟩
 obtain⟨i,z,h1,h2,h3⟩:=hz
 exact Zj3 (by decide +kernel) h1 h2 h3
theorem Zxi:ElemOf Tryz.prog 192 222 4 24 #[.int .i64 0,.int .i64 0,.bool false,.bool false]:=by
 have hz:∃i z,Tryz.prog.info? 222=some i∧i.zero=some z∧z.cells=([.int .i64 0,.int .i64 0,.bool false,.bool false]:List Value).toArray:=⟨_,_,rfl,rfl,rfl⟩
 obtain⟨i,z,h1,h2,h3⟩:=hz
 exact Zj3 (by decide +kernel) h1 h2 h3
end Go.Proofs.YtdaenijbokialaaGreat
