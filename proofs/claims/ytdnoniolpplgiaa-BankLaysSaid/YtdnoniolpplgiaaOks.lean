/- A device on which nothing fails, and what a bank's functions leave on it: contracts (package bank). -/
import Derived.Test.YtdnoniolpplgiaaAppG
import Derived.Test.YtdnoniolpplgiaaLaid
namespace Go.Proofs.Ytdnoniolpplgiaa
open Go.RowKit Go.Maps Go.Sort Go.Shelf

/-- Nothing fails, all is fenced, and these are the words. -/
structure Ok (d : Dv) (f : Int → Int) (n : Int) : Prop where
  dead : d.dead = false
  armed : d.armed = 0
  cl : Cl d f
  n : d.n = n
theorem Ok.lay {d : Dv} {f : Int → Int} {n a : Int} {xs : List Int} {r : Int × Dv} (h : Ok d f n) (h0 : 0 ≤ a) (h1 : a + xs.length ≤ n) (hL : LayIs d a xs r) : r.1 = 0 ∧ Ok r.2 (updF f a xs) n := by
  rcases lay_law h.dead h.cl h0 (by rw [h.n]; exact h1) hL with ⟨e1, e2, e3⟩ | ⟨_, e2, _⟩
  · exact ⟨e1, e2.dead, e2.armed h.armed, e3, e2.n.trans h.n⟩
  · exact absurd h.armed e2
theorem Ok.lay2 {d : Dv} {f : Int → Int} {n a b : Int} {xs ys : List Int} {r : Int × Dv} (h : Ok d f n) (h0 : 0 ≤ a) (h1 : a + xs.length ≤ n) (h2 : 0 ≤ b) (h3 : b + ys.length ≤ n) (hL : Lay2 d a xs b ys r) : r.1 = 0 ∧ Ok r.2 (updF (updF f a xs) b ys) n := by
  obtain ⟨r1, hL1, hr⟩ := hL
  obtain ⟨e1, e2⟩ := h.lay h0 h1 hL1
  rcases hr with ⟨hn, _⟩ | ⟨_, hL2⟩
  · exact absurd e1 hn
  · exact e2.lay h2 h3 hL2

/-- What words hold a first page's marks, and a bank's picture and log. -/
structure Mem (f : Int → Int) (i : Int) (image log : List Int) (m0 m1 rt : Int) : Prop where
  h0 : f 32 = log.length
  h1 : f 33 = image.length
  im : ∀ j : Nat, (h : j < image.length) → f (34 + j) = image[j]
  lg : ∀ j : Nat, (h : j < log.length) → f (34 + i + j) = log[j]
  m0 : f 0 = m0
  m1 : f 1 = m1
  rt : f 2 = rt
theorem Mem.same {f g : Int → Int} {i : Int} {image log : List Int} {m0 m1 rt : Int} (h : Mem f i image log m0 m1 rt) (hi : image.length ≤ i) (e : ∀ k, k < 34 + i + log.length → g k = f k) : Mem g i image log m0 m1 rt :=
  ⟨(e _ (by omega)).trans h.h0, (e _ (by omega)).trans h.h1, fun j hj => (e _ (by omega)).trans (h.im j hj), fun j hj => (e _ (by omega)).trans (h.lg j hj), (e _ (by omega)).trans h.m0, (e _ (by omega)).trans h.m1, (e _ (by omega)).trans h.rt⟩
theorem mem_make {i : Int} (image : List Int) (_hi : image.length ≤ i) : Mem (updF (updF (fun _ => 0) 34 image) 32 [0, (image.length : Int)]) i image [] 0 0 0 := by
  have hl : (([0, (image.length : Int)] : List Int).length : Int) = 2 := rfl
  refine ⟨?_, ?_, fun j hj => ?_, fun j hj => absurd hj (by simp), ?_, ?_, ?_⟩
  · exact updF_in (a := 32) (xs := [0, (image.length : Int)]) (j := 0) (by simp)
  · exact updF_in (a := 32) (xs := [0, (image.length : Int)]) (j := 1) (by simp)
  · rw [updF_out (by omega), updF_in hj]
  all_goals rw [updF_out (by omega), updF_out (by omega)]
theorem Mem.app {f : Int → Int} {i : Int} {image log : List Int} {m0 m1 rt : Int} (h : Mem f i image log m0 m1 rt) (hi : image.length ≤ i) (more : List Int) :
    Mem (updF (updF f (34 + i + log.length) more) 32 [(log.length : Int) + (more.length : Int)]) i image (log ++ more) m0 m1 rt := by
  have hl : (([(log.length : Int) + (more.length : Int)] : List Int).length : Int) = 1 := rfl
  refine ⟨?_, ?_, fun j hj => ?_, fun j hj => ?_, ?_, ?_, ?_⟩
  · rw [List.length_append]
    have := updF_in (f := updF f (34 + i + log.length) more) (a := 32) (xs := [(log.length : Int) + (more.length : Int)]) (j := 0) (by simp)
    simpa using this
  · rw [updF_out (by omega), updF_out (by omega)]; exact h.h1
  · rw [updF_out (by omega), updF_out (by omega)]; exact h.im j hj
  · rw [updF_out (by omega)]
    by_cases hj2 : j < log.length
    · rw [updF_out (by omega), List.getElem_append_left hj2]; exact h.lg j hj2
    · have hj3 : j - log.length < more.length := by rw [List.length_append] at hj; omega
      rw [List.getElem_append_right (by omega)]
      have := updF_in (f := f) (a := 34 + i + log.length) (xs := more) hj3
      rw [← this]
      congr 1
      omega
  · rw [updF_out (by omega), updF_out (by omega)]; exact h.m0
  · rw [updF_out (by omega), updF_out (by omega)]; exact h.m1
  · rw [updF_out (by omega), updF_out (by omega)]; exact h.rt
theorem Mem.switch {f : Int → Int} {i : Int} {image log : List Int} {m0 m1 rt : Int} (h : Mem f i image log m0 m1 rt) (hi : 0 ≤ i) (r : Int) : Mem (updF f 2 [r]) i image log m0 m1 r := by
  have hl : (([r] : List Int).length : Int) = 1 := rfl
  refine ⟨?_, ?_, fun j hj => ?_, fun j hj => ?_, ?_, ?_, ?_⟩
  · rw [updF_out (by omega)]; exact h.h0
  · rw [updF_out (by omega)]; exact h.h1
  · rw [updF_out (by omega)]; exact h.im j hj
  · rw [updF_out (by omega)]; exact h.lg j hj
  · rw [updF_out (by omega)]; exact h.m0
  · rw [updF_out (by omega)]; exact h.m1
  · exact updF_in (a := 2) (xs := [r]) (j := 0) (by simp)
theorem Mem.format {f : Int → Int} {i : Int} {image log : List Int} {m0 m1 rt : Int} (h : Mem f i image log m0 m1 rt) (hi : 0 ≤ i) (a b : Int) : Mem (updF f 0 [a, b]) i image log a b rt := by
  have hl : (([a, b] : List Int).length : Int) = 2 := rfl
  refine ⟨?_, ?_, fun j hj => ?_, fun j hj => ?_, ?_, ?_, ?_⟩
  · rw [updF_out (by omega)]; exact h.h0
  · rw [updF_out (by omega)]; exact h.h1
  · rw [updF_out (by omega)]; exact h.im j hj
  · rw [updF_out (by omega)]; exact h.lg j hj
  · exact updF_in (f := f) (a := 0) (xs := [a, b]) (j := 0) (by simp)
  · exact updF_in (f := f) (a := 0) (xs := [a, b]) (j := 1) (by simp)
  · rw [updF_out (by omega)]; exact h.rt
theorem bank_zero (b : Int) : bankAt b 0 = 32 := by unfold bankAt; rw [if_neg (by decide)]

/-- A device that was made: how its words lie, and what they are. -/
structure Bank (d : Dv) (b i l : Int) (image log : List Int) (m0 m1 rt n : Int) : Prop where
  ok : ∃ f, Ok d f n ∧ Mem f i image log m0 m1 rt
  b0 : 0 ≤ b
  b1 : b ≤ 131072
  i1 : i ≤ 5000000
  l1 : l ≤ 5000000
  fits : 34 + i + l ≤ n
  im : image.length ≤ i
  lg : log.length ≤ l
theorem Bank.bk {d : Dv} {b i l : Int} {image log : List Int} {m0 m1 rt n : Int} (h : Bank d b i l image log m0 m1 rt n) : Bk d b i l 0 log.length image.length := by
  obtain ⟨f, ho, hm⟩ := h.ok
  exact ⟨ho.dead, h.b0, h.b1, h.i1, h.l1, by rw [bank_zero, ho.n]; have := h.fits; omega, by rw [bank_zero, ho.cl.holds]; exact hm.h0, by rw [bank_zero, ho.cl.holds]; exact hm.h1, h.lg, h.im⟩
theorem wordsAt_eq {d : Dv} {f : Int → Int} (h : Cl d f) {a : Int} {xs : List Int} (e : ∀ j : Nat, (hj : j < xs.length) → f (a + j) = xs[j]) : wordsAt d a xs.length = xs := by
  apply List.ext_getElem
  · rw [wordsAt_len]
  · intro j h1 h2
    have e1 : (wordsAt d a xs.length)[j]? = some (d.holds (a + j)) := by
      unfold wordsAt
      rw [List.getElem?_map, List.getElem?_range h2]
      rfl
    rw [List.getElem?_eq_getElem h1, h.holds] at e1
    exact (Option.some.inj e1).trans (e j h2)
theorem Bank.image {d : Dv} {b i l : Int} {image log : List Int} {m0 m1 rt n : Int} (h : Bank d b i l image log m0 m1 rt n) : wordsAt d (bankAt b 0 + 2) image.length = image := by
  obtain ⟨f, ho, hm⟩ := h.ok
  exact wordsAt_eq ho.cl (by rw [bank_zero]; exact hm.im)
theorem Bank.log {d : Dv} {b i l : Int} {image log : List Int} {m0 m1 rt n : Int} (h : Bank d b i l image log m0 m1 rt n) : wordsAt d (bankAt b 0 + 2 + i) log.length = log := by
  obtain ⟨f, ho, hm⟩ := h.ok
  refine wordsAt_eq ho.cl (fun j hj => ?_)
  rw [bank_zero, show (32 : Int) + 2 + i = 34 + i by omega]; exact hm.lg j hj

section
variable {w : World} {t m c y n cap N : Nat} {T : List Int} {d : Dv} {p b i l q : Int} {A : Option Addr} {xs : List Int} {many : Int}
theorem make_ok (h : EX w w t m c y T d N) (hO : Ok d (fun _ => 0) many) (cap : Nat) (hW : Words w A n xs) (hA : xs ≠ [] → ∀ a, A = some a → a.block ∉ [t, m, c, y]) (hi : n ≤ i) (b0 : 0 ≤ b) (b1 : b ≤ 131072) (i1 : i ≤ 5000000) (l0 : 0 ≤ l) (l1 : l ≤ 5000000) (fits : 34 + i + l ≤ many) (hn : n ≤ 5000) (hN : N ≤ 20000) :
    Calls Try.prog 67 #[.pointer (some ⟨t, 0, none⟩), gv p b i l q, .int .i64 0, .slice A n cap] w fun e w' => ∃ T' d', e = .returned (.int .i64 0) ∧ Bank d' b i l xs [] 0 0 0 many ∧ EX w w' t m c y T' d' (N + 2 * n + 24) := by
  refine (make_any h cap hW hA hi b0 b1 hn hN).mono ?_
  rintro e w' ⟨T', r, rfl, hL, hE⟩
  have hxl := hW.1
  rw [bank_zero] at hL
  obtain ⟨e1, e2⟩ := hO.lay2 (by omega) (by omega) (by omega) (by simp; omega) hL
  have hm := mem_make (i := i) xs (by omega)
  rw [show (32 : Int) + 2 = 34 from rfl, ← hxl] at e2
  refine ⟨T', r.2, by rw [e1], ⟨⟨_, e2, hm⟩, b0, b1, i1, l1, fits, by omega, l0⟩, hE⟩
theorem app_ok {image log : List Int} {m0 m1 rt : Int} (h : EX w w t m c y T d N) (hB : Bank d b i l image log m0 m1 rt many) (cap : Nat) (hW : Words w A n xs) (hA : xs ≠ [] → ∀ a, A = some a → a.block ∉ [t, m, c, y]) (hi : n ≤ l - log.length) (hn : n ≤ 5000) (hN : N ≤ 20000) :
    Calls Try.prog 36 #[.pointer (some ⟨t, 0, none⟩), gv p b i l q, .int .i64 0, .slice A n cap] w fun e w' => ∃ T' d', e = .returned (.int .i64 0) ∧ Bank d' b i l image (log ++ xs) m0 m1 rt many ∧ EX w w' t m c y T' d' (N + 2 * n + 22) := by
  have him := hB.im
  refine (app_any h hB.bk cap hW hA hi (by omega) hn hN).mono ?_
  rintro e w' ⟨T', r, rfl, hL, hE⟩
  have hxl := hW.1
  have hft := hB.fits
  rw [bank_zero, show (32 : Int) + 2 + i = 34 + i by omega] at hL
  obtain ⟨f, ho, hm⟩ := hB.ok
  obtain ⟨e1, e2⟩ := ho.lay2 (by omega) (by omega) (by omega) (by simp; omega) hL
  rw [← hxl] at e2
  exact ⟨T', r.2, by rw [e1], ⟨⟨_, e2, hm.app him xs⟩, hB.b0, hB.b1, hB.i1, hB.l1, hB.fits, him, by rw [List.length_append]; omega⟩, hE⟩
theorem switch_ok {image log : List Int} {m0 m1 rt : Int} (h : EX w w t m c y T d N) (hB : Bank d b i l image log m0 m1 rt many) (e k : Int) (h0 : 0 ≤ e) (h1 : e ≤ 1099511627776) (hl0 : 0 ≤ l) (hN : N ≤ 20000) :
    Calls Try.prog 45 #[.pointer (some ⟨t, 0, none⟩), .int .i64 e, .int .i64 k] w fun en w' => ∃ T' d', en = .returned (.int .i64 0) ∧ Bank d' b i l image log m0 m1 (rootV e k) many ∧ EX w w' t m c y T' d' (N + 12) := by
  have him := hB.im
  refine (switch_any h e k h0 h1 (by omega)).mono ?_
  rintro e w' ⟨T', r, rfl, hL, hE⟩
  have hft := hB.fits
  obtain ⟨f, ho, hm⟩ := hB.ok
  obtain ⟨e1, e2⟩ := ho.lay (by omega) (by simp; omega) hL
  exact ⟨T', r.2, by rw [e1], ⟨⟨_, e2, hm.switch (by omega) _⟩, hB.b0, hB.b1, hB.i1, hB.l1, hB.fits, him, hB.lg⟩, hE⟩
theorem format_ok {image log : List Int} {m0 m1 rt : Int} (h : EX w w t m c y T d N) (hB : Bank d b i l image log m0 m1 rt many) (p0 : 0 ≤ p) (p1 : p ≤ 1048576) (hl0 : 0 ≤ l) (hN : N ≤ 20000) :
    Calls Try.prog 68 #[.pointer (some ⟨t, 0, none⟩), gv p b i l q] w fun en w' => ∃ T' d', en = .returned (.int .i64 0) ∧ Bank d' b i l image log 1937075568 p rt many ∧ EX w w' t m c y T' d' (N + 14) := by
  have him := hB.im
  refine (format_any h p b i l q p0 p1 (by omega)).mono ?_
  rintro e w' ⟨T', r, rfl, hL, hE⟩
  have hft := hB.fits
  obtain ⟨f, ho, hm⟩ := hB.ok
  obtain ⟨e1, e2⟩ := ho.lay (by omega) (by simp; omega) hL
  exact ⟨T', r.2, by rw [e1], ⟨⟨_, e2, hm.format (by omega) _ _⟩, hB.b0, hB.b1, hB.i1, hB.l1, hB.fits, him, hB.lg⟩, hE⟩
end
end Go.Proofs.Ytdnoniolpplgiaa
