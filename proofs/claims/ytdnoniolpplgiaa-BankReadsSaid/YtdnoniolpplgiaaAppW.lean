/- Words appended to words of the call's own; an append to a bank whose power may fail (package bank). -/
import Derived.Test.YtdnoniolpplgiaaCut
import Derived.Maps.AppendAt
namespace Go.Proofs.Ytdnoniolpplgiaa
open Go.RowKit Go.Maps Go.Sort Go.Shelf

theorem run_appU (w : World) (ty : TypeId) {base n m c : Nat} {v : Value} {xs ys : List Int} {Y : Option Addr} (hown : w.ownsRow base 28 1 v n (xs.map (Value.int .u64))) (hW : Words w Y m ys) (hn : n ≤ 100000) (hm : m ≤ 100000) (hbase : base ≤ w.heap.size) :
    ∃ v' w', (Builtin.append_ #[53, 53] ty #[v, .slice Y m c]).run Try.prog w = .ok v' w' ∧ w'.ownsRow base 28 1 v' (n + m) ((xs ++ ys).map (Value.int .u64)) ∧ w.grownBy w' v.ownBlock ∧ (v'.ownBlock = v.ownBlock ∨ v'.ownBlock = some w.heap.size) := by
  obtain ⟨i0, hin, hz0, hz1, hz2⟩ := info_parts Try.info28
  have hl := hW.1
  have some_ : ∀ ad, Y = some ad → (∀ j u, (ys.map (Value.int .u64))[j]? = some u → w.cell? (ad.add j) = some u) → ∃ v' w', (Builtin.append_ #[53, 53] ty #[v, .slice Y m c]).run Try.prog w = .ok v' w' ∧ w'.ownsRow base 28 1 v' (n + m) ((xs ++ ys).map (Value.int .u64)) ∧ w.grownBy w' v.ownBlock ∧ (v'.ownBlock = v.ownBlock ∨ v'.ownBlock = some w.heap.size) := by
    rintro ad rfl hc
    obtain ⟨v', w', hr, h1, h2, _, h5⟩ := run_append_own_at (P := Try.prog) w base 53 ty 28 i0 (.int .u64 0) 1 8 Try.underlying53 hin hz0 hz1 hz2 rfl (by decide) v n (xs.map (Value.int .u64)) hown ad m c (ys.map (Value.int .u64)) (by simp [hl]) hc (fun u hu => by obtain ⟨z, _, rfl⟩ := List.mem_map.1 hu; rfl) (by unfold maxLen; omega) (by omega) hbase
    exact ⟨v', w', hr, by rw [List.map_append]; exact h1, h2, h5⟩
  rcases hW.2 with hx | ⟨b, off, rfl, hb, hc⟩
  · subst hx
    have hm0 : m = 0 := by rw [← hl]; rfl
    subst hm0
    cases Y with
    | none =>
      refine ⟨v, w, ?_, by simpa using hown, ⟨rfl, rfl, rfl, Nat.le_refl _, fun _ _ _ => rfl⟩, .inl rfl⟩
      rcases hown.2 with ⟨rfl, rfl⟩ | ⟨g, cap, cur, rfl, _, _, hnc, _⟩
      · simp [Builtin.append_, run_underlying Try.underlying53, sizeOf, typeInfo, hin, Builtin.lenOf, Builtin.firstCells]
      · simp [Builtin.append_, run_underlying Try.underlying53, sizeOf, typeInfo, hin, Builtin.lenOf, Builtin.firstCells, hnc, storeCells]
    | some ad => exact some_ ad rfl (fun j u hj => by simp at hj)
  · refine some_ ⟨b, off, none⟩ rfl (fun j u hj => ?_)
    rw [List.getElem?_map] at hj
    cases e : ys[j]? with
    | none => rw [e] at hj; cases hj
    | some z =>
      rw [e] at hj
      cases hj
      obtain ⟨hlt, hz⟩ := List.getElem?_eq_some_iff.1 e
      have := hc j hlt
      rw [hz] at this
      have ha : (⟨b, off, none⟩ : Addr).add j = ⟨b, off + j, none⟩ := by unfold Addr.add; split <;> simp_all
      rw [ha]
      exact this
theorem wpList_appU {w : World} {ops : Array Oper} {rest : List Oper} {o : Oper} {a : Act} {Q : Exit → Act → World → Prop} (hgd : o.guard = none) (s x : Operand)
    (ho : o.op = .call { callee := .builtin .append, args := #[s, x], argTypes := #[53, 53] })
    {base n m c : Nat} {v : Value} {xs ys : List Int} {Y : Option Addr} (hs : a.eval s = v) (hx : a.eval x = .slice Y m c) (hown : w.ownsRow base 28 1 v n (xs.map (Value.int .u64))) (hW : Words w Y m ys) (hn : n ≤ 100000) (hm : m ≤ 100000) (hbase : base ≤ w.heap.size)
    (h : ∀ v' w', w'.ownsRow base 28 1 v' (n + m) ((xs ++ ys).map (Value.int .u64)) → w.grownBy w' v.ownBlock → (v'.ownBlock = v.ownBlock ∨ v'.ownBlock = some w.heap.size) → wpList Try.prog ops Q rest (a.put o.dst v') w') :
    wpList Try.prog ops Q (o :: rest) a w := by
  refine wpList_plain hgd fun K hK => ?_
  obtain ⟨v', w', hr, h2, h3, h4⟩ := run_appU w o.type (c := c) hown hW hn hm hbase
  unfold Oper.wp execOp
  simp only [ho, resolve, invoke, builtin, Sem.run_bind, Sem.run_pure, Result.andThen_ok, List.map_toArray, List.map_cons, List.map_nil, hs, hx, hr]
  exact hK _ _ (h v' w' h2 h3 h4)

theorem words_eq {A B : Option Addr} {n k : Nat} {xs ys : List Int} {w : World} (cap cap2 : Nat) (e : xs = ys) (h : Words w A n xs) (h2 : Words w B k ys) (hm : n ≤ maxLen) : Calls Try.prog 38 #[.slice A n cap, .slice B k cap2] w fun e w' => e = .returned (.bool true) ∧ Below w.heap.size w w' := by
  subst e
  exact words_same cap cap2 h h2 hm
theorem words_ne {A B : Option Addr} {n k : Nat} {xs ys : List Int} {w : World} (cap cap2 : Nat) (e : xs ≠ ys) (h : Words w A n xs) (h2 : Words w B k ys) (hm : n ≤ maxLen) (hk : k ≤ maxLen) : Calls Try.prog 38 #[.slice A n cap, .slice B k cap2] w fun e w' => e = .returned (.bool false) ∧ Below w.heap.size w w' := by
  refine (samewords_any cap cap2 h h2 hm hk).mono ?_
  rintro e' w' ⟨rfl, hb⟩
  exact ⟨by simp [e], hb⟩
theorem few_yes (w : World) (A : Option Addr) (n cap : Nat) (h : n ≤ 200) : Calls Try.prog 34 #[.slice A n cap] w fun e w' => e = .returned (.bool true) ∧ w' = w := by
  refine (few_words w A n cap).mono ?_
  rintro e w' ⟨rfl, rfl⟩
  exact ⟨by simp [h], rfl⟩
theorem few_no (w : World) (A : Option Addr) (n cap : Nat) (h : ¬ n ≤ 200) : Calls Try.prog 34 #[.slice A n cap] w fun e w' => e = .returned (.bool false) ∧ w' = w := by
  refine (few_words w A n cap).mono ?_
  rintro e w' ⟨rfl, rfl⟩
  exact ⟨by simp [h], rfl⟩
/-- What may be read once power has failed, or not. -/
def Reads (er : Int) (d : Dv) (i l : Int) (image log more : List Int) (m0 m1 rt many : Int) : Prop :=
  d.n = many ∧ ∃ f0 g, Half d f0 g ∧ ∀ f' : Int → Int, (∀ k, f' k = f0 k ∨ f' k = g k) → ∃ log', Mem f' i image log' m0 m1 rt ∧ log'.length ≤ l ∧ (log' = log ∨ log' = log ++ more) ∧ (er = 0 → log' = log ++ more)
/-- .. a device that may be armed. -/
structure Bank0 (d : Dv) (b i l : Int) (image log : List Int) (m0 m1 rt n : Int) : Prop where
  ok : ∃ f, Arm d f n ∧ Mem f i image log m0 m1 rt
  b0 : 0 ≤ b
  b1 : b ≤ 131072
  i1 : i ≤ 5000000
  l1 : l ≤ 5000000
  fits : 34 + i + l ≤ n
  im : image.length ≤ i
  lg : log.length ≤ l
theorem Bank.arm {d : Dv} {b i l : Int} {image log : List Int} {m0 m1 rt n : Int} (h : Bank d b i l image log m0 m1 rt n) (a : Int) : Bank0 { d with armed := a } b i l image log m0 m1 rt n := by
  obtain ⟨f, ho, hm⟩ := h.ok
  exact ⟨⟨f, ho.arm a, hm⟩, h.b0, h.b1, h.i1, h.l1, h.fits, h.im, h.lg⟩
theorem Bank0.bk {d : Dv} {b i l : Int} {image log : List Int} {m0 m1 rt n : Int} (h : Bank0 d b i l image log m0 m1 rt n) : Bk d b i l 0 log.length image.length := by
  obtain ⟨f, ho, hm⟩ := h.ok
  exact ⟨ho.dead, h.b0, h.b1, h.i1, h.l1, by rw [bank_zero, ho.n]; have := h.fits; omega, by rw [bank_zero, ho.cl.holds]; exact hm.h0, by rw [bank_zero, ho.cl.holds]; exact hm.h1, h.lg, h.im⟩
theorem Bank0.same {d : Dv} {b i l : Int} {image log more : List Int} {m0 m1 rt n : Int} (h : Bank0 d b i l image log m0 m1 rt n) {er : Int} (he : er ≠ 0) : Reads er d i l image log more m0 m1 rt n := by
  obtain ⟨f, ho, hm⟩ := h.ok
  refine ⟨ho.n, f, f, ho.cl.half, fun f' hf => ⟨log, ?_, h.lg, .inl rfl, fun e => absurd e he⟩⟩
  have : f' = f := funext fun k => by rcases hf k with h | h <;> exact h
  rw [this]; exact hm
theorem Bank0.app {d : Dv} {b i l : Int} {image log more : List Int} {m0 m1 rt n : Int} (h : Bank0 d b i l image log m0 m1 rt n) (hm : more.length ≤ l - log.length) {r : Int × Dv} (hL : Lay2 d (34 + i + log.length) more 32 [(log.length : Int) + (more.length : Int)] r) : Reads r.1 r.2 i l image log more m0 m1 rt n := by
  obtain ⟨f, ho, hmm⟩ := h.ok
  have hft := h.fits
  have him := h.im
  have hlen : (log ++ more).length ≤ l := by rw [List.length_append]; omega
  have happ := hmm.app him more
  obtain ⟨r1, hL1, hr⟩ := hL
  rcases ho.lay (by omega) (by omega) hL1 with ⟨e1, e2⟩ | ⟨e1, e2, e3⟩
  · rcases hr with ⟨hn, _⟩ | ⟨_, hL2⟩
    · exact absurd e1 hn
    · rcases e2.lay (by omega) (by simp; omega) hL2 with ⟨g1, g2⟩ | ⟨g1, g2, g3⟩
      · refine ⟨g2.n, _, _, g2.cl.half, fun f' hf => ⟨log ++ more, ?_, hlen, .inr rfl, fun _ => rfl⟩⟩
        have : f' = _ := funext fun k => by rcases hf k with h | h <;> exact h
        rw [this]; exact happ
      · refine ⟨g2, _, _, g3, fun f' hf => ?_⟩
        by_cases h32 : f' 32 = updF (updF f (34 + i + log.length) more) 32 [(log.length : Int) + (more.length : Int)] 32
        · refine ⟨log ++ more, ?_, hlen, .inr rfl, fun _ => rfl⟩
          have : f' = updF (updF f (34 + i + log.length) more) 32 [(log.length : Int) + (more.length : Int)] := funext fun k => by
            by_cases hk : k = 32
            · rw [hk]; exact h32
            · rcases hf k with h | h
              · rw [h, updF_out (xs := [(log.length : Int) + (more.length : Int)]) (by simp; omega)]
              · exact h
          rw [this]; exact happ
        · refine ⟨log, hmm.same him (fun k hk => ?_), h.lg, .inl rfl, fun e => absurd e g1⟩
          by_cases hk2 : k = 32
          · rw [hk2]
            rcases hf 32 with h | h
            · rw [h, updF_out (by omega)]
            · exact absurd h h32
          · rcases hf k with h | h
            · rw [h, updF_out (by omega)]
            · rw [h, updF_out (by simp; omega), updF_out (by omega)]
  · rcases hr with ⟨_, rfl⟩ | ⟨hn, _⟩
    · refine ⟨e2, _, _, e3, fun f' hf => ⟨log, hmm.same him (fun k hk => ?_), h.lg, .inl rfl, fun e => absurd e e1⟩⟩
      rcases hf k with h | h
      · exact h
      · rw [h, updF_out (by omega)]
    · exact absurd hn e1

section
variable {w : World} {t m c y n cap N : Nat} {T : List Int} {d : Dv} {p b i l q : Int} {many : Int} {image log : List Int} {m0 m1 rt : Int} {A : Option Addr} {xs : List Int}
theorem app_cut (h : EX w w t m c y T d N) (hB : Bank0 d b i l image log m0 m1 rt many) (cap : Nat) (hW : Words w A n xs) (hA : xs ≠ [] → ∀ a, A = some a → a.block ∉ [t, m, c, y]) (hn : n ≤ 5000) (hN : N ≤ 20000) :
    Calls Try.prog 36 #[.pointer (some ⟨t, 0, none⟩), gv p b i l q, .int .i64 0, .slice A n cap] w fun e w' => ∃ T' er d', e = .returned (.int .i64 er) ∧ Reads er d' i l image log xs m0 m1 rt many ∧ EX w w' t m c y T' d' (N + 2 * n + 22) := by
  have him := hB.im
  have hxl := hW.1
  by_cases hi : (n : Int) ≤ l - log.length
  · refine (app_any h hB.bk cap hW hA hi (by omega) hn hN).mono ?_
    rintro e w' ⟨T', r, rfl, hL, hE⟩
    rw [bank_zero, show (32 : Int) + 2 + i = 34 + i by omega, ← hxl] at hL
    exact ⟨T', r.1, r.2, rfl, hB.app (by omega) hL, hE⟩
  · refine (app_no h.dev hB.bk (by omega)).mono ?_
    rintro e w' ⟨rfl, hb⟩
    exact ⟨T, 28, d, rfl, hB.same (by decide), EX.from_ hb ((h.at_ hb).mono (by omega))⟩
theorem Reads.crash {er : Int} (h : Reads er d i l image log xs m0 m1 rt many) (hE : EX w w t m c y T d N) (hb0 : 0 ≤ b) (hb1 : b ≤ 131072) (hi1 : i ≤ 5000000) (hl1 : l ≤ 5000000) (fits : 34 + i + l ≤ many) (him : image.length ≤ i) {keep : List Bool} (cap : Nat) (hB : Bools w A n keep) (hA : keep ≠ [] → ∀ a, A = some a → a.block ∉ [t, m, c, y]) :
    Calls Try.prog 20 #[.pointer (some ⟨t, 0, none⟩), .slice A n cap] w fun e w' => ∃ c' y' d' log', e = .returned (.tuple #[]) ∧ Bank d' b i l image log' m0 m1 rt many ∧ (log' = log ∨ log' = log ++ xs) ∧ (er = 0 → log' = log ++ xs) ∧ DevIs w' t m c' y' T d' ∧ Kept [t, m, c, y] w w' := by
  obtain ⟨hn, f0, g, hH, hall⟩ := h
  refine (crash_cut hE hH hn cap hB hA).mono ?_
  rintro e w' ⟨c', y', d', f', rfl, hO, hf, hD, hk⟩
  obtain ⟨log', hM, hl, h1, h2⟩ := hall f' hf
  exact ⟨c', y', d', log', rfl, ⟨⟨f', hO, hM⟩, hb0, hb1, hi1, hl1, fits, him, hl⟩, h1, h2, hD, hk⟩
end
end Go.Proofs.Ytdnoniolpplgiaa
