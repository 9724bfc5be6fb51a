/- What a formatted device's geom is found to be (package bank), and what the law BankReads keeps from round to round. -/
import Derived.Test.YtdnoniolpplgiaaAppW
import Derived.Test.YtdnoniolpplgiaaOpenW
namespace Go.Proofs.Ytdnoniolpplgiaa
open Go.RowKit Go.Maps Go.Sort Go.Shelf
theorem results_find (tm : Array Value) {w : World} {g : Nat} {p b i l q : Int} (h : GB w g p b i l q) (y : Value) (h7 : tm[2]? = some (.pointer (some ⟨g, 0, none⟩))) (h8 : tm[3]? = some y) : (results Try.f40 tm).run Try.prog w = .ok (.tuple #[gv p b i l q, y]) w := by
  have e0 := h.c0
  have e1 := h.c1
  have e2 := h.c2
  have e3 := h.c3
  have e4 := h.c4
  simp [results, Try.results40, go_sem, gv, e0, e1, e2, e3, e4, h7, h8]
section
variable {w : World} {t m c y : Nat} {T : List Int} {d : Dv} {pages : Int} {image log : List Int} {rt : Int}
theorem load_ok (h : DevIs w t m c y T d) {f : Int → Int} {many : Int} (hO : Ok d f many) {k : Int} (h0 : 0 ≤ k) (h1 : k < many) (h2 : many ≤ 33554432) : Calls Try.prog 23 #[.pointer (some ⟨t, 0, none⟩), .int .i64 k] w fun e w' => e = .returned (.tuple #[.int .u64 (f k), .int .i64 0]) ∧ w' = w := by
  have hl := load_any h (i := k) (by unfold W64; omega)
  rw [hO.dead, fault_in h0 (by rw [hO.n]; exact h1), if_pos rfl, hO.cl.holds] at hl
  exact hl
set_option maxRecDepth 100000 in
set_option maxHeartbeats 8000000 in
theorem find_any (h : DevIs w t m c y T d) (h0 : 64 ≤ pages) (h1 : pages ≤ 100) (hB : Bank d (bOf pages) (iOf pages) (lOf pages) image log 1937075568 pages rt (pages * 32)) : Calls Try.prog 40 #[.pointer (some ⟨t, 0, none⟩)] w fun e w' => e = .returned (.tuple #[gv pages (bOf pages) (iOf pages) (lOf pages) (qOf pages), .int .i64 0]) ∧ Below w.heap.size w w' := by
  obtain ⟨f, hO, hM⟩ := hB.ok
  have hm0 := hM.m0
  have hm1 := hM.m1
  have HZ := Lib.hid (ZB.new w)
  have HB1 := Lib.hid (show Below w.heap.size w (w.alloc (.cells #[.int .i64 0, .int .i64 0, .int .i64 0, .int .i64 0, .int .i64 0] 58)) from (Below.refl _ _).alloc (Nat.le_refl _) _)
  have hD1 := h.below HB1.out
  have HD1 := Lib.hid hD1
  have C0 := Lib.hid (load_ok hD1 hO (k := 0) (by omega) (by omega) (by omega))
  have C1 := Lib.hid (load_ok hD1 hO (k := 1) (by omega) (by omega) (by omega))
  rw [hm0] at C0
  rw [hm1] at C1
  have HN := Lib.hid hO.n
  have CF0 := fun w => of_yes pages w h0 (by omega)
  change ∀ w, Calls Try.prog 65 #[.int .i64 pages] w fun e w' => e = .returned (.tuple #[gv pages (bOf pages) (iOf pages) (lOf pages) (qOf pages), .bool true]) ∧ Below w.heap.size w w' at CF0
  clear hB hM hm0 hm1 hD1 hO
  generalize bOf pages = b at *
  generalize iOf pages = i at *
  generalize lOf pages = l at *
  generalize qOf pages = q at *
  have CF := Lib.hid CF0
  have CG := Lib.hid (fun w => geomwords_any pages b i l q w (by omega) (by omega))
  have hw : IntKind.i64.wrap pages = pages := IntWalk.i64_in _ (by omega)
  unfold gv at CF CG
  clear CF0 h
  go_enter Try.func40, Try.ntmps40
  go_wp2_with (first
    | (go_at_call 23; first
      | (with_reducible refine (C0.out).mono ?_; rintro e w' ⟨rfl, hw⟩; rw [hw]; clear hw w')
      | (with_reducible refine (C1.out).mono ?_; rintro e w' ⟨rfl, hw⟩; rw [hw]; clear hw w'))
    | (go_at_call 65; refine (CF.out _).mono ?_; rintro e w2 ⟨rfl, hb2⟩; have HB2 := Lib.hid (HB1.out.trans (hb2.mono HB1.out.size)); have hba : Below w2.heap.size w2 (w2.alloc (.cells #[.int .i64 pages, .int .i64 b, .int .i64 i, .int .i64 l, .int .i64 q] 58)) := (Below.refl _ _).alloc (Nat.le_refl _) _; have HG2 := Lib.hid (GB.new w2 pages b i l q); have HZ2 := Lib.hid ((HZ.out.below hb2).below hba); have HD2 := Lib.hid ((HD1.out.below hb2).below hba); have HB2a := Lib.hid (HB2.out.trans (hba.mono HB2.out.size)); clear hb2 hba)
    | (go_at_call 66; refine (CG.out _).mono ?_; rintro e w3 ⟨rfl, hb3⟩; have HB3 := Lib.hid (HB2a.out.trans (hb3.mono HB2a.out.size)); have HG3 := Lib.hid (HG2.out.below hb3); have g0 := HG3.out.c0; have g1 := HG3.out.c1; have g2 := HG3.out.c2; have g3 := HG3.out.c3; have g4 := HG3.out.c4; have HZ3 := Lib.hid (HZ2.out.below hb3); have z0 := HZ3.out.g.c0; have z1 := HZ3.out.g.c1; have z2 := HZ3.out.g.c2; have z3 := HZ3.out.g.c3; have z4 := HZ3.out.g.c4; have f0 := HZ3.out.fr 0; have f1 := HZ3.out.fr 1; have f2 := HZ3.out.fr 2; have f3 := HZ3.out.fr 3; have f4 := HZ3.out.fr 4; have HD3 := Lib.hid (HD2.out.below hb3); clear hb3)
    | (go_at_call 31; refine (words_any HD3.out).mono ?_; rintro e w' ⟨rfl, hw⟩; rw [hw, HN.out]; clear hw w'))
  have hs := set5_below HB3.out (Nat.le_refl _) (.int .i64 pages) (.int .i64 b) (.int .i64 i) (.int .i64 l) (.int .i64 q)
  have hg := gb_set5 HZ3.out pages b i l q
  exact bodyPost_ret (results_find _ hg _ rfl rfl) rfl ⟨rfl, hs⟩
end
theorem row_kept5 {S : List Nat} {w w' : World} {base e size n : Nat} {v : Value} {xs : List Value} (h : w.ownsRow base e size v n xs) (hk : Kept S w w') (hS : ∀ k, v.ownBlock = some k → k ∉ S) : w'.ownsRow base e size v n xs := by
  refine ⟨h.1, ?_⟩
  rcases h.2 with h2 | ⟨g, cap, cur, rfl, hb, hg, hr⟩
  · exact .inl h2
  · exact .inr ⟨g, cap, cur, rfl, hb, (hk.block g (Array.getElem?_eq_some_iff.1 hg).1 (hS g rfl)).trans hg, hr⟩
/-- Device, bank, box and the law's own log. -/
structure RS (w0 w : World) (t m c y gb N nl : Nat) (lg bl image : List Int) (X : Option Addr) (cx : Nat) (T : List Int) (d : Dv) (pages b i l q : Int) : Prop where
  ex : EX w w t m c y T d N
  bk : Bank d b i l image bl 1937075568 pages 2 (pages * 32)
  g : GB w gb pages b i l q
  go : gb ∉ [t, m, c, y]
  new : ∀ j ∈ [t, m, c, y], w0.heap.size ≤ j
  bel : Below w0.heap.size w0 w
  len : lg.length = nl
  row : w.ownsRow w0.heap.size 28 1 (.slice X nl cx) nl (lg.map (Value.int .u64))
  far : ∀ k, (Value.slice X nl cx).ownBlock = some k → k ∉ [t, m, c, y] ∧ k ≠ gb
section
variable {w0 w w' : World} {t m c y gb N N' N2 nl k c7 : Nat} {lg bl bl' image ys : List Int} {X X7 : Option Addr} {cx : Nat} {T T' : List Int} {d d' : Dv} {pages b i l q : Int}
theorem RS.step (h : RS w0 w t m c y gb N nl lg bl image X cx T d pages b i l q) (hE : EX w w' t m c y T' d' N') (hN : N' ≤ N2) (hB : Bank d' b i l image bl' 1937075568 pages 2 (pages * 32)) : RS w0 w' t m c y gb N2 nl lg bl' image X cx T' d' pages b i l q :=
  ⟨hE.here.mono hN, hB, h.g.kept hE.kept h.go, h.go, h.new, hE.kept.below h.bel h.new h.bel.size, h.len, row_kept5 h.row hE.kept (fun k hk => (h.far k hk).1), h.far⟩
theorem RS.below (h : RS w0 w t m c y gb N nl lg bl image X cx T d pages b i l q) (hb : Below w.heap.size w w') : RS w0 w' t m c y gb N nl lg bl image X cx T d pages b i l q :=
  ⟨h.ex.at_ hb, h.bk, h.g.below hb, h.go, h.new, h.bel.trans (hb.mono h.bel.size), h.len, row_kept5 (S := []) h.row (Kept.of_below hb) (fun _ _ => by simp), h.far⟩
theorem RS.mono (h : RS w0 w t m c y gb N nl lg bl image X cx T d pages b i l q) (hN : N ≤ N2) : RS w0 w t m c y gb N2 nl lg bl image X cx T d pages b i l q :=
  ⟨h.ex.mono hN, h.bk, h.g, h.go, h.new, h.bel, h.len, h.row, h.far⟩
theorem RS.app (h : RS w0 w t m c y gb N nl lg bl image X cx T d pages b i l q) (hk : ys.length = k) (hown : w'.ownsRow w0.heap.size 28 1 (.slice X7 (nl + k) c7) (nl + k) ((lg ++ ys).map (Value.int .u64))) (hg : w.grownBy w' (Value.slice X nl cx).ownBlock) (hat : (Value.slice X7 (nl + k) c7).ownBlock = (Value.slice X nl cx).ownBlock ∨ (Value.slice X7 (nl + k) c7).ownBlock = some w.heap.size) :
    RS w0 w' t m c y gb N (nl + k) (lg ++ ys) bl image X7 c7 T d pages b i l q := by
  have hlt := h.ex.dev.lt
  have hD : DevIs w' t m c y T d := h.ex.dev.same hg.size (fun j hj => hg.block j (hlt j hj) (fun e => (h.far j e.symm).1 hj))
  have hc : ∀ o v, w.cell? ⟨gb, o, none⟩ = some v → w'.cell? ⟨gb, o, none⟩ = some v := fun o v hv => hg.cell hv (fun e => (h.far gb e.symm).2 rfl)
  refine ⟨⟨hD, h.ex.t64, h.ex.few, Kept.refl _ _⟩, h.bk, ⟨Nat.lt_of_lt_of_le h.g.lt hg.size, hc _ _ h.g.c0, hc _ _ h.g.c1, hc _ _ h.g.c2, hc _ _ h.g.c3, hc _ _ h.g.c4⟩, h.go, h.new, h.bel.grown hg h.bel.size (fun k hk => (h.row.lt k hk).1), by rw [List.length_append, h.len, hk], hown, fun j hj => ?_⟩
  rcases hat with e | e
  · rw [e] at hj; exact h.far j hj
  · rw [e] at hj
    cases hj
    exact ⟨fun hm => Nat.lt_irrefl _ (hlt _ hm), fun e => by have := h.g.lt; omega⟩
theorem free_bank {image log : List Int} {m0 m1 rt many : Int} (h : DevIs w t m c y T d) (hB : Bank d b i l image log m0 m1 rt many) (p : Int) (hl : log.length = nl) : Calls Try.prog 39 #[.pointer (some ⟨t, 0, none⟩), gv p b i l q, .int .i64 0] w fun e w' => e = .returned (.tuple #[.int .i64 (l - nl), .int .i64 0]) ∧ Below w.heap.size w w' := by
  subst hl
  exact free_any h hB.bk
theorem read_bank' {image log : List Int} {m0 m1 rt many : Int} {ni : Nat} (h : DevIs w t m c y T d) (hB : Bank d b i l image log m0 m1 rt many) (p : Int) (hl : log.length = nl) (hi : image.length = ni) : Calls Try.prog 37 #[.pointer (some ⟨t, 0, none⟩), gv p b i l q, .int .i64 0] w fun e w' => ∃ X cx Y cy, e = .returned (.tuple #[.slice X ni cx, .slice Y nl cy, .int .i64 0]) ∧ Words w' X ni image ∧ Words w' Y nl log ∧ Below w.heap.size w w' := by
  subst hl hi
  exact read_bank h hB
theorem root_bank {image log : List Int} {m0 m1 many : Int} (h : DevIs w t m c y T d) (hB : Bank d b i l image log m0 m1 2 many) (hm : 3 ≤ many) : Calls Try.prog 41 #[.pointer (some ⟨t, 0, none⟩)] w fun en w' => en = .returned (.tuple #[.int .i64 1, .int .i64 0, .int .i64 0]) ∧ w' = w := by
  obtain ⟨f, hO, hM⟩ := hB.ok
  exact root_cut h hO hm (by omega) (by omega) (by omega) (by omega) hM.rt
theorem Rows_.below {w w' : World} {lo n : Nat} {A : Option Addr} {rs : List Wl} (h : Rows_ w lo A n rs) (hb : Below w.heap.size w w') : Rows_ w' lo A n rs := by
  refine ⟨h.1, fun r hr => ⟨(h.2.1 r hr).1.below hb, (h.2.1 r hr).2⟩, ?_⟩
  rcases h.2.2 with h2 | ⟨b, off, rfl, hl, hc⟩
  · exact .inl h2
  · exact .inr ⟨b, off, rfl, Nat.lt_of_lt_of_le hl hb.size, fun j hj => (hb.cell hl).trans (hc j hj)⟩
theorem Rows_.at {w : World} {lo n : Nat} {A : Option Addr} {rs : List Wl} (h : Rows_ w lo A n rs) {j : Nat} (hj : j < n) : ∃ b off, A = some ⟨b, off, none⟩ ∧ b < w.heap.size ∧ ∃ r : Wl, w.cell? ⟨b, off + j, none⟩ = some (.slice r.a r.n r.c) ∧ Words w r.a r.n r.xs ∧ r.n ≤ maxLen ∧ (r.xs ≠ [] → ∀ x, r.a = some x → x.block < lo) := by
  have hx : j < rs.length := by rw [h.1]; exact hj
  rcases h.2.2 with h2 | ⟨b, off, rfl, hl, hc⟩
  · subst h2; simp at hx
  · exact ⟨b, off, rfl, hl, rs[j], hc j hx, h.2.1 _ (List.getElem_mem hx)⟩
end
end Go.Proofs.Ytdnoniolpplgiaa
