/- CacheDoes: what the law knows, carried over the cache's calls. -/
import Derived.Test.YtcleabnbdfhmnaaIds2
namespace Go.Proofs.Ytcleabnbdfhmnaa
open Go.RowKit Go.Maps Go.Sort Go.Shelf

theorem DI.few {w0 w : World} {t b j m9 : Nat} {most last : Int} {es : List Pg} {X : Option Addr} {c : Nat} (h : DI w0 w t b j m9 most last es X c) : (m9 : Int) ≤ most ∧ 8 ≤ most ∧ most ≤ 256 ∧ 0 ≤ last ∧ es.length = m9 := by
  obtain ⟨n, hC, _⟩ := h.cache
  have := hC.mb
  have := h.le
  have := h.len
  exact ⟨by omega, by omega, by omega, hC.lb.1, by omega⟩

theorem DI.eldestC {w0 w : World} {t b j m9 : Nat} {most last : Int} {es : List Pg} {X : Option Addr} {c : Nat} (h : DI w0 w t b j m9 most last es X c) :
    Calls Try.prog 22 #[.pointer (some ⟨t, 0, none⟩)] w fun e w' => e = .returned (.tuple #[.int .i64 ((es.head?.map Pg.id).getD 0), .bool (!es.isEmpty)]) ∧ DI w0 w' t b j m9 most last es X c := by
  obtain ⟨n, hC, _⟩ := h.cache
  exact (eldest_any hC).mono fun e w' ⟨he, hb⟩ => ⟨he, h.below hb⟩

theorem DI.idsC {w0 w : World} {t b j m9 : Nat} {most last : Int} {es : List Pg} {X : Option Addr} {c : Nat} (h : DI w0 w t b j m9 most last es X c) :
    Calls Try.prog 23 #[.pointer (some ⟨t, 0, none⟩)] w fun e w' => ∃ X' c', e = .returned (.slice X' m9 c') ∧ Ints w' X' m9 (es.map Pg.id) ∧ DI w0 w' t b j m9 most last es X c := by
  obtain ⟨n, hC, _⟩ := h.cache
  refine (ids_any hC).mono ?_
  rintro e w2 ⟨v2, rfl, hown2, hb2⟩
  rw [List.length_map, h.len] at hown2
  obtain ⟨X', c', rfl⟩ := own_slice hown2
  exact ⟨X', c', rfl, ints_of_nums (by rw [List.length_map, h.len]) hown2, h.below hb2⟩

theorem DI.sameC {w0 w : World} {t b j m9 : Nat} {most last : Int} {es : List Pg} {X X' : Option Addr} {c : Nat} (c' : Nat) (h : DI w0 w t b j m9 most last es X c) (hI : Ints w X' m9 (es.map Pg.id)) :
    Calls Try.prog 13 #[.slice X' m9 c', .slice X m9 c] w fun e w' => e = .returned (.bool true) ∧ DI w0 w' t b j m9 most last es X c := by
  have hf := h.few
  have hm : m9 ≤ maxLen := by unfold maxLen; omega
  refine (sameints_any c' c hI h.ids.rd hm hm).mono ?_
  rintro e w2 ⟨rfl, hb2⟩
  exact ⟨by rw [decide_eq_true rfl], h.below hb2⟩

theorem DI.lenC {w0 w : World} {t b j m9 : Nat} {most last : Int} {es : List Pg} {X : Option Addr} {c : Nat} (h : DI w0 w t b j m9 most last es X c) :
    Calls Try.prog 24 #[.pointer (some ⟨t, 0, none⟩)] w fun e w' => e = .returned (.int .i64 (m9 : Int)) ∧ w' = w := by
  obtain ⟨n, hC, _⟩ := h.cache
  have := lenC_any hC
  rw [h.len] at this
  exact this

theorem DI.mostC {w0 w : World} {t b j m9 : Nat} {most last : Int} {es : List Pg} {X : Option Addr} {c : Nat} (h : DI w0 w t b j m9 most last es X c) :
    Calls Try.prog 25 #[.pointer (some ⟨t, 0, none⟩)] w fun e w' => e = .returned (.int .i64 most) ∧ w' = w := by
  obtain ⟨n, hC, _⟩ := h.cache
  exact mostC_any hC

theorem DI.roomC {w0 w : World} {t b j m9 : Nat} {most last : Int} {es : List Pg} {X : Option Addr} {c : Nat} (h : DI w0 w t b j m9 most last es X c) {r : Bool} (hr : decide ((m9 : Int) < most) = r) :
    Calls Try.prog 26 #[.pointer (some ⟨t, 0, none⟩), .int .i64 1] w fun e w' => e = .returned (.bool r) ∧ DI w0 w' t b j m9 most last es X c := by
  obtain ⟨n, hC, _⟩ := h.cache
  refine (room_any hC (k := 1) (by omega)).mono ?_
  rintro e w2 ⟨rfl, hb2⟩
  refine ⟨?_, h.below hb2⟩
  have hl := h.len
  rw [← hr]
  unfold roomB
  congr 2
  rw [decide_eq_decide]
  omega

theorem DI.dropNo {w0 w : World} {t b j m9 : Nat} {most last : Int} {es : List Pg} {X : Option Addr} {c : Nat} (h : DI w0 w t b j m9 most last es X c) {k : Int} (hk : W64 k) (hn : es.any (fun y => y.id == k) = false) :
    Calls Try.prog 21 #[.pointer (some ⟨t, 0, none⟩), .int .i64 k] w fun e w' => e = .returned (.bool false) ∧ DI w0 w' t b (j + 1) m9 most last es X c := by
  obtain ⟨n, hC, _⟩ := h.cache
  exact (drop_no hC hk hn).mono fun e w' ⟨he, hb⟩ => ⟨he, (h.below hb).mono (Nat.le_succ j)⟩

/-- Behind a drop, ahead of the cut. -/
structure DC (w0 w : World) (t b j m9 q : Nat) (most last : Int) (es : List Pg) (y : Pg) (bx off c : Nat) : Prop where
  cache : ∃ n, CacheIs w t b n most last (delC es y.id) ∧ n ≤ j
  le : (es.length : Int) ≤ most
  ls : last ≤ j
  len : es.length = m9
  at_ : es[q]? = some y
  ids : IdS w w0.heap.size (some ⟨bx, off, none⟩) m9 c (es.map Pg.id)
  far : bx ≠ t ∧ bx ≠ b ∧ (∀ y ∈ es, y.g ≠ bx) ∧ bx < w.heap.size ∧ w0.heap.size ≤ bx
  ris : RisingC es
  bel : Below w0.heap.size w0 w

theorem DI.dropC {w0 w : World} {t b j m9 q bx off : Nat} {most last : Int} {es : List Pg} {c : Nat} (h : DI w0 w t b j m9 most last es (some ⟨bx, off, none⟩) c) {y : Pg} (hq : es[q]? = some y) (hb0 : w0.heap.size ≤ b) :
    Calls Try.prog 21 #[.pointer (some ⟨t, 0, none⟩), .int .i64 y.id] w fun e w' => e = .returned (.bool true) ∧ DC w0 w' t b j m9 q most last es y bx off c := by
  obtain ⟨n, hC, hnj⟩ := h.cache
  refine (drop_any hC (List.mem_of_getElem? hq)).mono ?_
  rintro e w' ⟨rfl, hC', hg⟩
  obtain ⟨f1, f2, f3, f4⟩ := h.far _ rfl
  refine ⟨rfl, ⟨n, hC', hnj⟩, h.le, h.ls, h.len, hq, h.ids.kept hg (fun a ha => ?_), ⟨f1, f2, f3, Nat.lt_of_lt_of_le f4 hg.size, h.ids.base_le _ rfl⟩, hC.ris, h.bel.grown hg h.bel.size (fun q hq => by cases hq; exact hb0)⟩
  cases ha
  simpa using f2

theorem DC.tail {w0 w : World} {t b j m9 q bx off : Nat} {most last : Int} {es : List Pg} {y : Pg} {c : Nat} (h : DC w0 w t b j m9 q most last es y bx off c) : Ints w (if c = q + 1 then some ⟨bx, off, none⟩ else some ⟨bx, off + (q + 1), none⟩) (m9 - (q + 1)) ((es.map Pg.id).drop (q + 1)) := by
  have hl := h.ids.rd.1
  have hc := h.ids.cap
  have hq := (List.getElem?_eq_some_iff.1 h.at_).1
  have hln := h.len
  by_cases h0 : c = q + 1
  · rw [if_pos h0]
    exact ⟨by rw [List.length_drop]; omega, .inl (List.drop_eq_nil_of_le (by omega))⟩
  · rw [if_neg h0]; exact Ints.drop h.ids.rd (by omega)
theorem DC.head {w0 w : World} {t b j m9 q bx off : Nat} {most last : Int} {es : List Pg} {y : Pg} {c : Nat} (h : DC w0 w t b j m9 q most last es y bx off c) : IdS w w0.heap.size (some ⟨bx, off, none⟩) q q ((es.map Pg.id).take q) := by
  have hq := (List.getElem?_eq_some_iff.1 h.at_).1
  have hln := h.len
  exact h.ids.take h.far.2.2.2.2 h.far.2.2.2.1 (by omega)
theorem tail_formI (c k b off : Nat) : (if c = k then some (⟨b, off, none⟩ : Addr) else some ⟨b, off + k, none⟩) = none ∨ ∃ b' off', (if c = k then some (⟨b, off, none⟩ : Addr) else some ⟨b, off + k, none⟩) = some ⟨b', off', none⟩ := by
  right; split
  · exact ⟨_, _, rfl⟩
  · exact ⟨_, _, rfl⟩
theorem DC.below {w0 w w' : World} {t b j m9 q bx off : Nat} {most last : Int} {es : List Pg} {y : Pg} {c : Nat} (h : DC w0 w t b j m9 q most last es y bx off c) (hb : Below w.heap.size w w') : DC w0 w' t b j m9 q most last es y bx off c :=
  ⟨h.cache.imp fun _ hn => ⟨hn.1.below hb, hn.2⟩, h.le, h.ls, h.len, h.at_, h.ids.below hb, ⟨h.far.1, h.far.2.1, h.far.2.2.1, Nat.lt_of_lt_of_le h.far.2.2.2.1 hb.size, h.far.2.2.2.2⟩, h.ris, h.bel.trans (hb.mono h.bel.size)⟩

theorem DC.cut {w0 w w5 : World} {t b j m9 q bx off : Nat} {most last : Int} {es : List Pg} {y : Pg} {c c5 : Nat} {X5 : Option Addr} (h : DC w0 w t b j m9 q most last es y bx off c)
    (hI : IdS w5 w0.heap.size X5 (q + (m9 - (q + 1))) c5 ((es.map Pg.id).take q ++ (es.map Pg.id).drop (q + 1))) (hX : X5 = some ⟨bx, off, none⟩ ∨ ∃ g, X5 = some ⟨g, 0, none⟩ ∧ w.heap.size ≤ g) (h5 : w.grownBy w5 (some bx)) :
    DI w0 w5 t b (j + 1) (q + (m9 - (q + 1))) most last (delC es y.id) X5 c5 := by
  obtain ⟨n, hC, hnj⟩ := h.cache
  obtain ⟨f1, f2, f3, f4, f5⟩ := h.far
  have hcut := cutC h.ris h.at_
  have hq := (List.getElem?_eq_some_iff.1 h.at_).1
  have hln := h.len
  have hlen : (delC es y.id).length = q + (m9 - (q + 1)) := by rw [hcut, List.length_append, List.length_take, List.length_drop]; omega
  have hle := h.le
  have hmem : ∀ z ∈ delC es y.id, z ∈ es := fun z hz => (List.mem_filter.1 hz).1
  refine ⟨⟨n, hC.grown h5 (by simp; omega) (by simp; omega) (fun z hz => by have := f3 z (hmem z hz); simp; omega), by omega⟩, by omega, by have := h.ls; omega, hlen, ?_, ?_, h.bel.grown h5 h.bel.size (fun q hq => by cases hq; exact f5)⟩
  · rw [hcut, List.map_append, List.map_take, List.map_drop]; exact hI
  · intro a ha
    rcases hX with rfl | ⟨g, rfl, hg⟩
    · cases ha
      exact ⟨f1, f2, fun z hz => f3 z (hmem z hz), Nat.lt_of_lt_of_le f4 h5.size⟩
    · cases ha
      have h6 := hC.tl
      have h7 := hC.map.lt
      refine ⟨by simp only; omega, by simp only; omega, fun z hz => ?_, ?_⟩
      · have := (hC.rows z hz).2.1; simp only; omega
      · rcases hI.own with ho | ⟨_, b', off', e, _, hl⟩
        · exact (ho.lt _ rfl).2
        · cases e; exact hl

/-- What no page is called. -/
theorem DI.find {w0 w : World} {t b j m9 : Nat} {most last : Int} {es : List Pg} {X : Option Addr} {c : Nat} (h : DI w0 w t b j m9 most last es X c) (k : Int) :
    -1 ≤ atI (es.map Pg.id) k m9 ∧ atI (es.map Pg.id) k m9 < m9 ∧ (∀ q : Nat, atI (es.map Pg.id) k m9 = q → ∃ y, es[q]? = some y ∧ y.id = k ∧ ∃ bx off, X = some ⟨bx, off, none⟩) ∧ (atI (es.map Pg.id) k m9 = -1 → es.any (fun y => y.id == k) = false) := by
  have hl := h.len
  have hb := atI_bounds (es.map Pg.id) k m9
  obtain ⟨h1, h2⟩ := atI_find (es.map Pg.id) k m9 (by rw [List.length_map]; omega)
  refine ⟨hb.1, hb.2, fun q hq => ?_, fun hq => ?_⟩
  · have := h1 q hq
    rw [List.getElem?_map, Option.map_eq_some_iff] at this
    obtain ⟨y, hy, e⟩ := this
    refine ⟨y, hy, e, ?_⟩
    rcases h.ids.rd.2 with h2 | ⟨b2, off, e, _⟩
    · have := (List.getElem?_eq_some_iff.1 hy).1
      have h3 := congrArg List.length h2
      rw [List.length_map, List.length_nil] at h3
      omega
    · exact ⟨b2, off, e⟩
  · rw [List.any_eq_false]
    intro y hy e
    obtain ⟨i, hi, rfl⟩ := List.mem_iff_getElem.1 hy
    exact h2 hq i es[i].id (by omega) (by rw [List.getElem?_map, List.getElem?_eq_getElem hi]; rfl) (by simpa using e)
theorem DI.getYes {w0 w : World} {t b j m9 : Nat} {most last x : Int} {es : List Pg} {X : Option Addr} {c : Nat} (h : DI w0 w t b j m9 most last es X c) {y : Pg} (hy : y ∈ es) (hbs : y.bs = zs255 ++ [x]) :
    Calls Try.prog 20 #[.pointer (some ⟨t, 0, none⟩), .int .i64 y.id] w fun e w' => ∃ P c', e = .returned (.tuple #[.slice (some ⟨P, 0, none⟩) 256 c', .bool true]) ∧ w'.cell? ⟨P, 255, none⟩ = some (.int .u8 x) ∧ DI w0 w' t b j m9 most last es X c := by
  obtain ⟨n, hC, _⟩ := h.cache
  refine (get_any hC hy).mono ?_
  rintro e w' ⟨v, rfl, hown, hb⟩
  rw [hbs] at hown
  obtain ⟨P, c', rfl, hc⟩ := row_page hown
  exact ⟨P, c', rfl, hc, h.below hb⟩

theorem DI.getNo {w0 w : World} {t b j m9 : Nat} {most last : Int} {es : List Pg} {X : Option Addr} {c : Nat} (h : DI w0 w t b j m9 most last es X c) (hn : es.any (fun y => y.id == 0) = false) :
    Calls Try.prog 20 #[.pointer (some ⟨t, 0, none⟩), .int .i64 0] w fun e w' => ∃ v, e = .returned (.tuple #[v, .bool false]) ∧ DI w0 w' t b j m9 most last es X c := by
  obtain ⟨n, hC, _⟩ := h.cache
  refine (get_no hC (k := 0) (by unfold W64; omega) hn).mono ?_
  rintro e w' ⟨v, rfl, hown, hb⟩
  exact ⟨v, rfl, h.below hb⟩

/-- The first of them. -/
theorem ints_at0 {w : World} {b off n : Nat} {y : Int} {l : List Int} (h : Ints w (some ⟨b, off, none⟩) n (y :: l)) : w.cell? ⟨b, off, none⟩ = some (.int .i64 y) := by
  rcases h.2 with h2 | ⟨b2, off2, e, _, hc⟩
  · cases h2
  · cases e
    exact hc 0 (by simp)

theorem DI.lastPut {w0 w : World} {t b j m9 : Nat} {most last : Int} {es : List Pg} {X : Option Addr} {c : Nat} (h : DI w0 w t b j m9 most last es X c) {B : Option Addr} {lb : Nat} {bs : List Int} (capb : Nat) (hB : BytesAt w0 B lb bs) (hj : j < 1000) (ht : w0.heap.size ≤ t) (hb : w0.heap.size ≤ b) :
    Calls Try.prog 19 #[.pointer (some ⟨t, 0, none⟩), .slice B lb capb] w fun e w' => ∃ k : Int, e = .returned (.tuple #[.int .i64 k, .bool (decide (lb = 256) && decide ((m9 : Int) < most))]) ∧ Below w0.heap.size w0 w' := by
  obtain ⟨n, hC, hn⟩ := h.cache
  have hln := h.len
  have hls := h.ls
  have hlt : ∀ a, B = some a → bs ≠ [] → a.block < w0.heap.size := by
    rintro a rfl hne
    rcases hB.2 with h2 | ⟨b2, off, e, hl, _⟩
    · exact absurd h2 hne
    · cases e; exact hl
  by_cases h256 : lb = 256
  · subst h256
    have hne : bs ≠ [] := by
      rintro rfl
      have := hB.1
      simp at this
    by_cases hr : (m9 : Int) < most
    · refine (put_any hC capb (hB.below h.bel) (by rw [hln]; exact hr) (by omega) (by omega) (fun a ha => by have := hlt a ha hne; omega) (fun a ha => by have := hlt a ha hne; omega)).mono ?_
      rintro e w' ⟨g, c, rfl, _, hk, _⟩
      exact ⟨last + 1, by simp [hr], Kept2.below h.bel hk ht hb h.bel.size⟩
    · refine (put_full hC B 256 capb (by rw [hln]; exact hr)).mono ?_
      rintro e w' ⟨rfl, hb'⟩
      exact ⟨0, by simp [hr], h.bel.trans (hb'.mono h.bel.size)⟩
  · refine (put_len hC B lb capb h256).mono ?_
    rintro e w' ⟨rfl, hb'⟩
    exact ⟨0, by simp [h256], h.bel.trans (hb'.mono h.bel.size)⟩
end Go.Proofs.Ytcleabnbdfhmnaa
