/- Where a functor is: plain. -/
import Derived.Test.YtlngmelfjiemlaaFun4
import Derived.Test.YtlngmelfjiemlaaRefA
namespace Go.Proofs.Ytlngmelfjiemlaa
open Go Go.D Go.Proofs
set_option linter.unusedSimpArgs false
set_option linter.unusedVariables false
set_option maxRecDepth 8000

section
variable {w v : World} {X : List Nat} {a fa : Option Addr} {L : List Slot} {made lim alim flim : Int} {FL : List Fn.Slot} {d : Fn.FtD}

/-- What holds of every table. -/
theorem Tl.atm (t : Tl w v X a L made lim) : ∃ M E, AtM L M E := by
  obtain ⟨FT, h | ⟨b, _, _, _, hL, _⟩, _, _⟩ := t
  · obtain ⟨d, _, ok, _, _, hL, _, _⟩ := h
    rw [← hL]; exact ⟨_, _, ok.at'⟩
  · rw [hL]; exact ⟨_, _, init_ok⟩

theorem Bf.atm (b : Bf w v X a fa L made alim FL flim d) : ∃ M E, Fn.AtM FL M E := by
  rw [← b.eL]; exact ⟨_, _, b.ok.at'⟩

theorem findN_get {n : ByteArray} {i : Nat} (h : findN L n = some i) : ∃ hi : i < L.length, L[i].is = true ∧ L[i].name = n := by
  unfold findN at h
  rw [List.findIdx?_eq_some_iff_getElem] at h
  obtain ⟨hi, hp, _⟩ := h
  simp at hp
  exact ⟨hi, hp.1, hp.2⟩

theorem find_of (t : ∃ M E, AtM L M E) {i : Nat} {s : Slot} (hi : L[i]? = some s) (his : s.is = true) : findN L s.name = some i := by
  obtain ⟨M, E, h⟩ := t
  have h1 := h.look1 i s hi his
  rw [h.find] at h1
  rcases hf : findN L s.name with _ | j
  · rw [hf] at h1; cases h1
  · rw [hf] at h1
    simp at h1
    congr 1; omega

theorem freeN_get {i : Nat} (h : freeN L = some i) : ∃ s, L[i]? = some s ∧ s.is = false := by
  unfold freeN at h
  rw [List.findIdx?_eq_some_iff_getElem] at h
  obtain ⟨hi, hp, _⟩ := h
  exact ⟨_, List.getElem?_eq_getElem hi, by simpa using hp⟩

theorem Fn.findN_get {n : Fn.Key} {i : Nat} (h : Fn.findN FL n = some i) : ∃ hi : i < FL.length, FL[i].is = true ∧ FL[i].key = n := by
  unfold Fn.findN at h
  rw [List.findIdx?_eq_some_iff_getElem] at h
  obtain ⟨hi, hp, _⟩ := h
  simp at hp
  exact ⟨hi, hp.1, hp.2⟩

theorem Fn.find_of (t : ∃ M E, Fn.AtM FL M E) {i : Nat} {s : Fn.Slot} (hi : FL[i]? = some s) (his : s.is = true) : Fn.findN FL s.key = some i := by
  obtain ⟨M, E, h⟩ := t
  have h1 := h.look1 i s hi his
  rw [h.find] at h1
  rcases hf : Fn.findN FL s.key with _ | j
  · rw [hf] at h1; cases h1
  · rw [hf] at h1
    simp at h1
    congr 1; omega

theorem Fn.freeN_get {i : Nat} (h : Fn.freeN FL = some i) : ∃ s, FL[i]? = some s ∧ s.is = false := by
  unfold Fn.freeN at h
  rw [List.findIdx?_eq_some_iff_getElem] at h
  obtain ⟨hi, hp, _⟩ := h
  exact ⟨_, List.getElem?_eq_getElem hi, by simpa using hp⟩

/-- A functor is there, under a number. -/
def At (L : List Slot) (FL : List Fn.Slot) (id : Nat) (n : ByteArray) (ar : Int) : Prop := ∃ (i : Nat) (m m' : Bool), FL[id]? = some ⟨((i : Nat), ar), true, m⟩ ∧ L[i]? = some ⟨n, true, m'⟩

theorem At.get {id : Nat} {n : ByteArray} {ar : Int} (h : At L FL id n ar) : getA L FL (id : Nat) = (n, ar, 0) := by
  obtain ⟨i, m, m', h1, h2⟩ := h
  unfold getA Fn.isN
  simp only [Int.toNat_natCast, h1]
  unfold isN
  simp [h2]

theorem At.find {id : Nat} {n : ByteArray} {ar : Int} (h : At L FL id n ar) (t : ∃ M E, AtM L M E) (u : ∃ M E, Fn.AtM FL M E) : findA L FL n ar = some id := by
  obtain ⟨i, m, m', h1, h2⟩ := h
  have e1 := find_of t h2 rfl
  have e2 := Fn.find_of u h1 rfl
  unfold findA
  simp only at e1 e2
  rw [e1]
  exact e2

theorem At.same {id : Nat} {n n' : ByteArray} {ar ar' : Int} (h : At L FL id n ar) (h' : At L FL id n' ar') : n = n' ∧ ar = ar' := by
  have e1 := h.get
  rw [h'.get] at e1
  simp at e1
  exact ⟨e1.1.symm, e1.2.symm⟩

/-- What is there stays. -/
theorem intern_stay {n : ByteArray} {j : Nat} {s : Slot} (h : L[j]? = some s) (hs : s.is = true) : (internS lim made L n).L[j]? = some s := by
  unfold internS
  split
  · exact h
  · split
    · exact h
    · split
      · rename_i i hi
        obtain ⟨s', h1, h2⟩ := freeN_get hi
        rw [List.getElem?_set_ne]
        · exact h
        · rintro rfl
          rw [h] at h1
          rw [← Option.some.inj h1, hs] at h2; cases h2
      · split
        · exact h
        · rw [List.getElem?_append_left (List.getElem?_eq_some_iff.1 h).1]; exact h

theorem intern_at {n : ByteArray} (h : (internS lim made L n).e = 0) : ∃ (i : Nat) (m : Bool), (internS lim made L n).i = i ∧ (internS lim made L n).L[i]? = some ⟨n, true, m⟩ := by
  unfold internS at *
  split at h
  · cases h
  · rename_i h1
    try rw [if_neg h1]
    split at h
    · rename_i i hi
      obtain ⟨hl, h2, h3⟩ := findN_get hi
      try rw [hi]
      refine ⟨i, L[i].mark, rfl, ?_⟩
      simp only
      rw [List.getElem?_eq_getElem hl, ← h3, ← h2]
    · rename_i hn
      try rw [hn]
      try simp only
      split at h
      · rename_i i hi
        try rw [hi]
        obtain ⟨s', h3, h4⟩ := freeN_get hi
        exact ⟨i, false, rfl, List.getElem?_set_self (List.getElem?_eq_some_iff.1 h3).1⟩
      · rename_i hf
        try rw [hf]
        try simp only
        split at h
        · cases h
        · rename_i hl
          try rw [if_neg hl]
          exact ⟨L.length, false, rfl, by simp⟩

theorem intern_made (lim made : Int) (L : List Slot) (n : ByteArray) : made ≤ (internS lim made L n).m ∧ (internS lim made L n).m ≤ made + 1 := by
  unfold internS
  split
  · simp; omega
  · split
    · simp; omega
    · split
      · simp; omega
      · split <;> simp <;> omega

theorem Fn.put_stay {k : Fn.Key} {j : Nat} {s : Fn.Slot} (h : FL[j]? = some s) (hs : s.is = true) : (Fn.putS flim FL k).L[j]? = some s := by
  unfold Fn.putS Fn.addS
  split
  · exact h
  · split
    · rename_i i hi
      obtain ⟨s', h1, h2⟩ := Fn.freeN_get hi
      rw [List.getElem?_set_ne]
      · exact h
      · rintro rfl
        rw [h] at h1
        rw [← Option.some.inj h1, hs] at h2; cases h2
    · split
      · exact h
      · rw [List.getElem?_append_left (List.getElem?_eq_some_iff.1 h).1]; exact h

theorem Fn.put_at {k : Fn.Key} (h : (Fn.putS flim FL k).e = 0) : ∃ (i : Nat) (m : Bool), (Fn.putS flim FL k).i = i ∧ (Fn.putS flim FL k).L[i]? = some ⟨k, true, m⟩ := by
  unfold Fn.putS Fn.addS at *
  split at h
  · rename_i i hi
    obtain ⟨hl, h2, h3⟩ := Fn.findN_get hi
    try rw [hi]
    refine ⟨i, FL[i].mark, rfl, ?_⟩
    simp only
    rw [List.getElem?_eq_getElem hl, ← h3, ← h2]
  · rename_i hn
    try rw [hn]
    try simp only
    split at h
    · rename_i i hi
      try rw [hi]
      obtain ⟨s', h3, h4⟩ := Fn.freeN_get hi
      exact ⟨i, false, rfl, List.getElem?_set_self (List.getElem?_eq_some_iff.1 h3).1⟩
    · rename_i hf
      try rw [hf]
      try simp only
      split at h
      · cases h
      · rename_i hl
        try rw [if_neg hl]
        exact ⟨FL.length, false, rfl, by simp⟩

theorem put_made (alim made : Int) (L : List Slot) (flim : Int) (FL : List Fn.Slot) (n : ByteArray) (ar : Int) : made ≤ (putA alim made L flim FL n ar).m ∧ (putA alim made L flim FL n ar).m ≤ made + 1 := by
  have := intern_made alim made L n
  unfold putA
  split
  · simp; omega
  · split
    · exact this
    · exact this

theorem put_stayN {n : ByteArray} {ar : Int} {j : Nat} {s : Slot} (h : L[j]? = some s) (hs : s.is = true) : (putA alim made L flim FL n ar).L[j]? = some s := by
  unfold putA
  split
  · exact h
  · split
    · exact intern_stay h hs
    · exact intern_stay h hs

theorem put_stayF {n : ByteArray} {ar : Int} {j : Nat} {s : Fn.Slot} (h : FL[j]? = some s) (hs : s.is = true) : (putA alim made L flim FL n ar).F[j]? = some s := by
  unfold putA
  split
  · exact h
  · split
    · exact h
    · exact Fn.put_stay h hs

theorem At.put {id : Nat} {n n' : ByteArray} {ar ar' : Int} (h : At L FL id n ar) : At (putA alim made L flim FL n' ar').L (putA alim made L flim FL n' ar').F id n ar := by
  obtain ⟨i, m, m', h1, h2⟩ := h
  exact ⟨i, m, m', put_stayF h1 rfl, put_stayN h2 rfl⟩

theorem put_At {n : ByteArray} {ar : Int} (h : (putA alim made L flim FL n ar).e = 0) : ∃ id : Nat, (putA alim made L flim FL n ar).i = id ∧ At (putA alim made L flim FL n ar).L (putA alim made L flim FL n ar).F id n ar := by
  unfold putA at *
  split at h
  · cases h
  · rename_i h1
    rw [if_neg h1]
    split at h
    · rename_i h2
      exact absurd h h2
    · rename_i h2
      rw [if_neg h2]
      simp only at h ⊢
      obtain ⟨i, m, e1, e2⟩ := intern_at (show (internS alim made L n).e = 0 by simpa using h2)
      rw [e1] at h ⊢
      obtain ⟨id, m', e3, e4⟩ := Fn.put_at h
      exact ⟨id, e3, i, m', m, e4, e2⟩

end

end Go.Proofs.Ytlngmelfjiemlaa
