/- What the law CacheDoes knows between two rounds: plain steps. -/
import Derived.Test.YtcleabnbdfhmnaaIds
namespace Go.Proofs.Ytcleabnbdfhmnaa
open Go.RowKit Go.Maps Go.Sort Go.Shelf

/-- What the law knows between two rounds. -/
structure DI (w0 w : World) (t b j m9 : Nat) (most last : Int) (es : List Pg) (X : Option Addr) (c : Nat) : Prop where
  cache : ∃ n, CacheIs w t b n most last es ∧ n ≤ j
  le : (es.length : Int) ≤ most
  ls : last ≤ j
  len : es.length = m9
  ids : IdS w w0.heap.size X m9 c (es.map Pg.id)
  far : ∀ a, X = some a → a.block ≠ t ∧ a.block ≠ b ∧ (∀ y ∈ es, y.g ≠ a.block) ∧ a.block < w.heap.size
  bel : Below w0.heap.size w0 w
theorem DI.below {w0 w w' : World} {t b j m9 : Nat} {most last : Int} {es : List Pg} {X : Option Addr} {c : Nat} (h : DI w0 w t b j m9 most last es X c) (hb : Below w.heap.size w w') : DI w0 w' t b j m9 most last es X c :=
  ⟨h.cache.imp fun n hn => ⟨hn.1.below hb, hn.2⟩, h.le, h.ls, h.len, h.ids.below hb, fun a ha => by obtain ⟨h1, h2, h3, h4⟩ := h.far a ha; exact ⟨h1, h2, h3, Nat.lt_of_lt_of_le h4 hb.size⟩, h.bel.trans (hb.mono h.bel.size)⟩
theorem DI.mono {w0 w : World} {t b j k m9 : Nat} {most last : Int} {es : List Pg} {X : Option Addr} {c : Nat} (h : DI w0 w t b j m9 most last es X c) (hj : j ≤ k) : DI w0 w t b k m9 most last es X c :=
  ⟨h.cache.imp fun n hn => ⟨hn.1, by have := hn.2; omega⟩, h.le, by have := h.ls; omega, h.len, h.ids, h.far, h.bel⟩
theorem one_news (w : World) (v : Value) (ty : TypeId) (k : Nat) (hk : k = w.heap.size) : ∀ j u, [v][j]? = some u → (w.alloc (.cells #[v] ty)).cell? ((⟨k, 0, none⟩ : Addr).add j) = some u := by
  subst hk
  intro j u hu
  cases j with
  | zero => cases hu; rw [add_lit2]; simp
  | succ j => simp at hu
theorem one_ints (w : World) (v : Int) (ty : TypeId) (k : Nat) (hk : k = w.heap.size) : Ints (w.alloc (.cells #[.int .i64 v] ty)) (some ⟨k, 0, none⟩) 1 [v] := by
  subst hk
  refine ⟨rfl, .inr ⟨_, 0, rfl, by simp, fun i hi => ?_⟩⟩
  cases i with
  | zero => simp
  | succ i => simp at hi

/-- A page of the call's own. -/
theorem own_page {w : World} {base : Nat} {v : Value} {x : Int} (h : w.ownsRow base 5 1 v (255 + 1) (zs255.map (Value.int .u8) ++ [.int .u8 x])) :
    ∃ P c, v = .slice (some ⟨P, 0, none⟩) 256 c ∧ base ≤ P ∧ P < w.heap.size ∧ BytesAt w (some ⟨P, 0, none⟩) 256 (zs255 ++ [x]) ∧ w.cell? ⟨P, 255, none⟩ = some (.int .u8 x) ∧ w.frozen? ⟨P, 255, none⟩ = false := by
  have h' : w.ownsRow base 5 1 v 256 ((zs255 ++ [x]).map (Value.int .u8)) := by rw [List.map_append]; exact h
  obtain ⟨P, c, rfl, h1, h2, h3⟩ := row256 (page_len x) h'
  refine ⟨P, c, rfl, h1, h2, ⟨page_len x, .inr ⟨P, 0, rfl, h2, fun i hi => by rw [Nat.zero_add]; exact h3 i hi⟩⟩, ?_, ?_⟩
  · have := h3 255 (by rw [page_len]; omega)
    rw [page_last] at this; exact this
  · rcases h'.2 with ⟨e, _⟩ | ⟨g, cap, cur, e, _, hh, _⟩
    · cases e
    · cases e
      simp [World.frozen?, hh]
theorem row_page {w : World} {base : Nat} {v : Value} {x : Int} (h : w.ownsRow base 5 1 v 256 ((zs255 ++ [x]).map (Value.int .u8))) :
    ∃ P c, v = .slice (some ⟨P, 0, none⟩) 256 c ∧ w.cell? ⟨P, 255, none⟩ = some (.int .u8 x) := by
  obtain ⟨P, c, rfl, h1, h2, h3⟩ := row256 (page_len x) h
  refine ⟨P, c, rfl, ?_⟩
  have := h3 255 (by rw [page_len]; omega)
  rw [page_last] at this; exact this

theorem Kept2.cell {w w' : World} {t b : Nat} (h : Kept2 w w' t b) {a : Addr} (hl : a.block < w.heap.size) (ht : a.block ≠ t) (hb : a.block ≠ b) : w'.cell? a = w.cell? a := World.cell?_of_block (h.block _ hl ht hb)
theorem Kept2.frozen {w w' : World} {t b : Nat} (h : Kept2 w w' t b) {a : Addr} (hl : a.block < w.heap.size) (ht : a.block ≠ t) (hb : a.block ≠ b) : w'.frozen? a = w.frozen? a := World.frozen?_of_block (h.block _ hl ht hb)

theorem DI.put {w0 wr w3 w4 w5 : World} {t b j m9 n : Nat} {most last : Int} {es : List Pg} {X X5 : Option Addr} {c c5 g c4 : Nat} {bs : List Int} {o : Obj} (hD : DI w0 wr t b j m9 most last es X c) (h3 : Below wr.heap.size wr w3) (hC : CacheIs w4 t b (n + 1) most (last + 1) (es ++ [⟨last + 1, g, c4, bs⟩])) (hn : n ≤ j)
    (hk : Kept2 w3 w4 t b) (hg : w3.heap.size ≤ g) (hI : IdS w5 w0.heap.size X5 (m9 + 1) c5 (es.map Pg.id ++ [last + 1])) (hX : X5 = X ∨ ∃ q, X5 = some ⟨q, 0, none⟩ ∧ (w4.alloc o).heap.size ≤ q) (h5 : (w4.alloc o).grownBy w5 (X.map Addr.block)) (hr : (m9 : Int) < most) (ht : w0.heap.size ≤ t) (hb : w0.heap.size ≤ b) (hX0 : ∀ a, X = some a → w0.heap.size ≤ a.block) :
    DI w0 w5 t b (j + 1) (m9 + 1) most (last + 1) (es ++ [⟨last + 1, g, c4, bs⟩]) X5 c5 := by
  have hxt : ∀ q : Nat, (∀ a, X = some a → q ≠ a.block) → some q ≠ X.map Addr.block := by
    intro q h e
    cases X with
    | none => cases e
    | some a => simp at e; exact h a rfl e
  have hs3 := h3.size
  have hs4 := hk.size
  have hs5 := h5.size
  have hsa : (w4.alloc o).heap.size = w4.heap.size + 1 := by simp
  have hC5 := (hC.below ((Below.refl _ _).alloc (Nat.le_refl _) o)).grown h5 (hxt _ fun a ha e => (hD.far a ha).1 e.symm) (hxt _ fun a ha e => (hD.far a ha).2.1 e.symm) (fun y hy => hxt _ fun a ha e => by
    obtain ⟨f1, f2, f3, f4⟩ := hD.far a ha
    rcases List.mem_append.1 hy with hy | hy
    · exact f3 y hy e
    · rw [List.mem_singleton] at hy; subst hy; simp only at e; omega)
  refine ⟨⟨n + 1, hC5, by omega⟩, by rw [List.length_append, List.length_singleton, hD.len]; omega, by have := hD.ls; omega, by rw [List.length_append, List.length_singleton, hD.len], by rw [List.map_append]; exact hI, ?_, ?_⟩
  · intro a ha
    rcases hX with rfl | ⟨q, rfl, hq⟩
    · obtain ⟨f1, f2, f3, f4⟩ := hD.far a ha
      refine ⟨f1, f2, fun y hy => ?_, by omega⟩
      rcases List.mem_append.1 hy with hy | hy
      · exact f3 y hy
      · rw [List.mem_singleton] at hy; subst hy; simp only; omega
    · cases ha
      have h6 := hC.tl
      have h7 := hC.map.lt
      refine ⟨by simp only; omega, by simp only; omega, fun y hy => ?_, ?_⟩
      · have := (hC.rows y hy).2.1; simp only; omega
      · rcases hI.own with ho | ⟨_, b', off', e, _, hl⟩
        · exact (ho.lt _ rfl).2
        · cases e; exact hl
  · have hb3 := hD.bel.trans (h3.mono hD.bel.size)
    have hb4 := hk.below hb3 ht hb hb3.size
    exact (hb4.alloc hb4.size o).grown h5 (by have := hb4.size; omega) (fun q hq => by
      cases X with
      | none => cases hq
      | some a => simp at hq; subst hq; exact hX0 a rfl)

theorem DI.store {w0 w : World} {t b j m9 : Nat} {most last : Int} {es : List Pg} {X : Option Addr} {c P off : Nat} {v : Value} (hD : DI w0 w t b j m9 most last es X c) (ht : P ≠ t) (hb : P ≠ b) (hy : ∀ y ∈ es, y.g ≠ P) (hX : ∀ a, X = some a → a.block ≠ P) (hP : w0.heap.size ≤ P) : DI w0 (w.setCell ⟨P, off, none⟩ v) t b j m9 most last es X c := by
  have hg := Lib.grownBy_setCell w P off v
  refine ⟨hD.cache.imp fun n hn => ⟨hn.1.grown hg (by simp; exact fun e => ht e.symm) (by simp; exact fun e => hb e.symm) (fun y h => by simp; exact hy y h), hn.2⟩, hD.le, hD.ls, hD.len, hD.ids.kept hg (fun a ha => by simp; exact hX a ha), fun a ha => ?_, hD.bel.setCell hP v⟩
  obtain ⟨f1, f2, f3, f4⟩ := hD.far a ha
  exact ⟨f1, f2, f3, Nat.lt_of_lt_of_le f4 hg.size⟩
theorem IdS.base_le {w : World} {base n c : Nat} {X : Option Addr} {xs : List Int} (h : IdS w base X n c xs) : ∀ a, X = some a → base ≤ a.block := by
  intro a ha
  rcases h.own with ho | ⟨_, b', off', e, hb, _⟩
  · subst ha; exact (ho.lt _ rfl).1
  · rw [ha] at e; cases e; exact hb

/-- The last place, of the first i, where k stands; -1: none. -/
def atI (xs : List Int) (k : Int) : Nat → Int
  | 0 => -1
  | i + 1 => match xs[i]? with
    | none => atI xs k i
    | some y => if y = k then i else atI xs k i
theorem atI_at {xs : List Int} {k : Int} {i : Nat} {y : Int} (h : xs[i]? = some y) : atI xs k (i + 1) = if y = k then (i : Int) else atI xs k i := by
  show (match xs[i]? with | none => _ | some y => _) = _
  rw [h]
theorem atI_bounds (xs : List Int) (k : Int) : ∀ i, -1 ≤ atI xs k i ∧ atI xs k i < i := by
  intro i
  induction i with
  | zero => simp [atI]
  | succ i ih =>
    unfold atI
    split
    · omega
    · split <;> omega
theorem atI_find (xs : List Int) (k : Int) : ∀ i, i ≤ xs.length → (∀ q : Nat, atI xs k i = q → xs[q]? = some k) ∧ (atI xs k i = -1 → ∀ q y, q < i → xs[q]? = some y → y ≠ k) := by
  intro i
  induction i with
  | zero => intro _; exact ⟨(fun k h => by simp [atI] at h), (fun _ k y hk => by omega)⟩
  | succ i ih =>
    intro hi
    have hx : xs[i]? = some xs[i] := List.getElem?_eq_getElem (by omega)
    generalize xs[i] = y at hx
    obtain ⟨h1, h2⟩ := ih (by omega)
    rw [atI_at hx]
    by_cases hw : y = k
    · rw [if_pos hw]
      refine ⟨fun q hk => ?_, fun hk => by omega⟩
      have e : i = q := by omega
      subst e
      rw [hx, hw]
    · rw [if_neg hw]
      refine ⟨h1, fun hk q z hkl hz => ?_⟩
      rcases Nat.lt_succ_iff_lt_or_eq.1 hkl with h | rfl
      · exact h2 hk q z h hz
      · rw [hx] at hz; cases hz; exact hw

theorem cutC {es : List Pg} (hr : RisingC es) {q : Nat} {y : Pg} (hq : es[q]? = some y) : delC es y.id = es.take q ++ es.drop (q + 1) := by
  obtain ⟨hl, rfl⟩ := List.getElem?_eq_some_iff.1 hq
  have e : es = es.take q ++ es[q] :: es.drop (q + 1) := by rw [List.getElem_cons_drop, List.take_append_drop]
  unfold RisingC at hr
  have hr' := hr
  rw [e, List.pairwise_append, List.pairwise_cons] at hr'
  obtain ⟨_, ⟨h2, _⟩, h3⟩ := hr'
  unfold delC
  generalize es[q] = y at *
  conv => lhs; rw [e]
  rw [List.filter_append, List.filter_cons, if_neg (by simp), List.filter_eq_self.2 (fun z hz => by have := h3 z hz y (by simp); simp; omega), List.filter_eq_self.2 (fun z hz => by have := h2 z hz; simp; omega)]
end Go.Proofs.Ytcleabnbdfhmnaa
