/- The law PolicySteps of package sumplaw02: scores go on one by one; what is no number makes nobody eager. The walk. -/
import Derived.Test.YtkakhjaaakophaaLawRises
import Derived.Laws.OwnMore
namespace Go.Proofs.Ytkakhjaaakophaa
open Go.RowKit Fl

theorem self_nan {x : Nat} (h : ¬ FloatKind.f64.format.order x x = some .eq) : ab x = none := by
  cases hn : nanB x with
  | true => exact ab_none hn
  | false =>
    exfalso; apply h
    show Ieee.double.order x x = some .eq
    unfold Ieee.Format.order
    unfold nanB at hn
    cases hd : Ieee.double.read x with
    | nan s t => rw [hd] at hn; cases hn
    | infinity s => unfold Ieee.Datum.order; simp only [ncmp_eq]
    | number s m i => unfold Ieee.Datum.order; simp only [cmp_eq]
theorem self_num {x : Nat} (h : FloatKind.f64.format.order x x = some .eq) : nanB x = false := by
  cases hn : nanB x with
  | false => rfl
  | true => rw [show FloatKind.f64.format.order x x = none from order_none x hn] at h; cases h
theorem lazy_nan {s l : Nat} (h : ab s = none ∨ ab l = none) : ageq (ab s) (ab l) = false := by
  unfold ageq
  rcases h with h | h
  · rw [h]; rfl
  · rw [h]; cases ab s <;> rfl
theorem plain_nan {k g l : Nat} (h : ¬ FloatKind.f64.format.order l l = some .eq) : plainB (ab k) (ab g) (ab l) = false := by
  unfold plainB; rw [aeq_is l l]; simp [h]
theorem eager_lss {s l : Nat} (h1 : FloatKind.f64.format.order s s = some .eq) (h2 : FloatKind.f64.format.order l l = some .eq) : ageq (ab s) (ab l) = !(FloatKind.f64.format.order s l == some .lt) := by
  rw [ageq_is]
  have n1 := self_num h1
  have n2 := self_num h2
  unfold nanB at n1 n2
  have : ∃ o, FloatKind.f64.format.order s l = some o := by
    show ∃ o, Ieee.double.order s l = some o
    unfold Ieee.Format.order
    cases hd : Ieee.double.read s with
    | nan a b => rw [hd] at n1; cases n1
    | infinity a => cases hd2 : Ieee.double.read l with
      | nan a b => rw [hd2] at n2; cases n2
      | infinity b => exact ⟨_, rfl⟩
      | number a b c => exact ⟨_, rfl⟩
    | number a b c => cases hd2 : Ieee.double.read l with
      | nan a b => rw [hd2] at n2; cases n2
      | infinity b => exact ⟨_, rfl⟩
      | number a b c => exact ⟨_, rfl⟩
  obtain ⟨o, ho⟩ := this
  rw [ho]; cases o <;> rfl

/-- A slice of bools is copied into a nil one, as a step of a region that draws its order. -/
theorem step_copy {ops : Array Oper} {o : Oper} {a : Act} {w : World} {K : Act → World → Prop} {Q : Exit → Act → World → Prop} {E : Prop} (hg : o.guard = none) (s x : Operand)
    (hop : o.op = Op.call { callee := Callee.builtin Builtin.append, args := #[s, x], argTypes := #[25, 25] }) (hs : a.eval s = .slice none 0 0)
    (A : Option Addr) (n cap : Nat) (bs : List Bool) (hx : a.eval x = .slice A n cap) (hv : Bools w A n bs) (hA : A = none → cap = 0) (hn : n ≤ 100)
    (hK : ∀ v w', w'.ownsRow w.heap.size 4 1 v n (bs.map Value.bool) → Below w.heap.size w w' → K (a.put o.dst v) w') :
    if Region.wanted o (yielded ops a.tmps) = true then Oper.wp Try.prog o a w K Q else E := by
  obtain ⟨i0, hi, hz0, hz1, hz2⟩ := info_parts Try.info4
  have hw : Region.wanted o (yielded ops a.tmps) = true := by simp [Region.wanted, hg]
  rw [if_pos hw]
  cases A with
  | none =>
    have h0 := hA rfl
    have hn0 : n = 0 := by
      have h1 := hv.1
      rcases hv.2 with h | ⟨b, off, h, _⟩
      · rw [h] at h1; exact h1.symm
      · cases h
    have hbs : bs = [] := by have h1 := hv.1; rw [hn0] at h1; exact List.length_eq_zero_iff.1 h1
    subst h0
    subst hn0
    subst hbs
    have hrun := run_append_owned_none (P := Try.prog) (w := w) w.heap.size 25 o.type 4 i0 1 Try.underlying25 hi (.slice none 0 0) 0 [] (World.ownsRow_nil _ _ _ _)
    unfold Oper.wp
    simp [execOp, hop, resolve, invoke, builtin, hs, hx, hrun, Result.andThen]
    exact hK _ _ (World.ownsRow_nil _ _ _ _) (Below.refl _ _)
  | some ad =>
    have hlb : (bs.map Value.bool).length = n * 1 := by rw [List.length_map, hv.1]; omega
    obtain ⟨v', w', hrun, hown, hgr, _⟩ := run_append_own (P := Try.prog) (w := w) w.heap.size 25 o.type 4 i0 (.bool false) 1 1 Try.underlying25 hi hz0 hz1 hz2 rfl (by decide) (.slice none 0 0) 0 [] (World.ownsRow_nil _ _ _ _) ad n cap (bs.map Value.bool) hlb (bools_news hv)
      (by intro u hu; obtain ⟨x, _, rfl⟩ := List.mem_map.1 hu; rfl) (by unfold maxLen; omega) (by omega) (Nat.le_refl _)
    have hown : w'.ownsRow w.heap.size 4 1 v' n (bs.map Value.bool) := by simpa using hown
    unfold Oper.wp
    simp [execOp, hop, resolve, invoke, builtin, hs, hx, hrun, Result.andThen]
    exact hK _ _ hown ((Below.refl _ _).grown hgr (Nat.le_refl _) (fun i hi => by simp [Value.ownBlock] at hi))

/-- One bool is appended to a row of the call's own. -/
theorem step_push {ops : Array Oper} {o : Oper} {a : Act} {w : World} {K : Act → World → Prop} {Q : Exit → Act → World → Prop} {E : Prop} (hg : o.guard = none) (s x : Operand)
    (hop : o.op = Op.call { callee := Callee.builtin Builtin.append, args := #[s, x], argTypes := #[25, 25] })
    (base : Nat) (v : Value) (n : Nat) (bs : List Bool) (hs : a.eval s = v) (hown : w.ownsRow base 4 1 v n (bs.map Value.bool)) (hbase : base ≤ w.heap.size)
    (B c : Nat) (y : Bool) (hx : a.eval x = .slice (some ⟨B, 0, none⟩) 1 c) (hc : w.cell? ⟨B, 0, none⟩ = some (.bool y)) (hn : n ≤ 100)
    (hK : ∀ v' w', w'.ownsRow base 4 1 v' (n + 1) ((bs ++ [y]).map Value.bool) → Below base w w' → K (a.put o.dst v') w') :
    if Region.wanted o (yielded ops a.tmps) = true then Oper.wp Try.prog o a w K Q else E := by
  obtain ⟨i0, hi, hz0, hz1, hz2⟩ := info_parts Try.info4
  have hw : Region.wanted o (yielded ops a.tmps) = true := by simp [Region.wanted, hg]
  rw [if_pos hw]
  have hnews : ∀ (j : Nat) (u : Value), [Value.bool y][j]? = some u → w.cell? ((⟨B, 0, none⟩ : Addr).add j) = some u := by
    intro j u hu
    cases j with
    | zero => cases hu; rw [show (⟨B, 0, none⟩ : Addr).add 0 = ⟨B, 0, none⟩ from by unfold Addr.add; simp]; exact hc
    | succ j => cases hu
  obtain ⟨v', w', hrun, hown', hgr, _⟩ := run_append_own (P := Try.prog) (w := w) base 25 o.type 4 i0 (.bool false) 1 1 Try.underlying25 hi hz0 hz1 hz2 rfl (by decide) v n _ hown ⟨B, 0, none⟩ 1 c [.bool y] rfl hnews
    (by intro u hu; rcases List.mem_singleton.1 hu with rfl; rfl) (by unfold maxLen; omega) (by omega) hbase
  have hown' : w'.ownsRow base 4 1 v' (n + 1) ((bs ++ [y]).map Value.bool) := by simpa using hown'
  unfold Oper.wp
  simp [execOp, hop, resolve, invoke, builtin, hs, hx, hrun, Result.andThen]
  exact hK _ _ hown' ((Below.refl _ _).grown hgr hbase (fun i hi => (hown.lt i hi).1))

theorem keepG {w0 w w1 w2 : World} {k g l B : Nat} (hl : w0.heap.size < w.heap.size) (hB : w.heap.size ≤ B) (h : w1.cell? ⟨w0.heap.size, 0, none⟩ = some (.float .f64 k) ∧ w1.cell? ⟨w0.heap.size, 1, none⟩ = some (.float .f64 g) ∧ w1.cell? ⟨w0.heap.size, 2, none⟩ = some (.float .f64 l) ∧ Below w.heap.size w w1) (hb : Below B w1 w2) :
    w2.cell? ⟨w0.heap.size, 0, none⟩ = some (.float .f64 k) ∧ w2.cell? ⟨w0.heap.size, 1, none⟩ = some (.float .f64 g) ∧ w2.cell? ⟨w0.heap.size, 2, none⟩ = some (.float .f64 l) ∧ Below w.heap.size w w2 := by
  have hl1 : w0.heap.size < B := Nat.lt_of_lt_of_le hl hB
  exact ⟨(hb.cell hl1).trans h.1, (hb.cell hl1).trans h.2.1, (hb.cell hl1).trans h.2.2.1, h.2.2.2.trans (hb.mono hB)⟩
theorem Below.news (w : World) (o : Obj) : Below w.heap.size w (w.alloc o) := (Below.refl _ _).alloc (Nat.le_refl _) _

set_option maxHeartbeats 400000 in
theorem steps_many (k g l s : Nat) (b : Bool) (A : Option Addr) (n cap : Nat) (w : World) (hn : 100 < n) (hm : n ≤ maxLen) : Calls Try.prog 6 #[pv k g l, .float .f64 s, .bool b, .slice A n cap] w fun e w' => e = .returned (.bool true) ∧ Below w.heap.size w w' := by
  unfold pv
  unfold maxLen at hm
  have hn1 : (100 : Int) < (n : Int) := by omega
  go_enter Try.func6, Try.ntmps6
  go_wp2_with (go_at_call 10; refine (awake2 _).mono ?_; rintro e w1 ⟨rfl, hb1⟩)
  go_ret
  exact ⟨rfl, ((Below.refl _ _).alloc (Nat.le_refl _) _).trans (hb1.mono (by simp))⟩

set_option maxRecDepth 100000 in
set_option maxHeartbeats 4000000 in
theorem steps_few (k g l s : Nat) (b : Bool) (A : Option Addr) (n cap : Nat) (bs : List Bool) (w : World) (hn : n ≤ 100) (hv : Bools w A n bs) (hA : A = none → cap = 0) :
    Calls Try.prog 6 #[pv k g l, .float .f64 s, .bool b, .slice A n cap] w fun e w' => e = .returned (.bool true) ∧ Below w.heap.size w w' := by
  unfold pv
  have hn1 : ¬ (100 : Int) < (n : Int) := by omega
  have C0 := Ctx.start k g l hv
  clear hv
  go_enter Try.func6, Try.ntmps6
  go_wp2_with fail
  refine (awake2 _).mono ?_
  rintro e w1 ⟨rfl, hb1⟩
  have C1 := C0.step hb1
  obtain ⟨p0, p1, p2⟩ := C1.cells
  go_wp2_with fail
  have hc := score_of k g l cap C1.bools (by omega)
  unfold pv at hc
  refine hc.mono ?_
  clear hc
  rintro e w2 ⟨now, rfl, hnow, hb2⟩
  have C2 := C1.step hb2
  obtain ⟨q0, q1, q2⟩ := C2.cells
  go_wp2_with fail
  have hc := next_any k g l now b w2
  unfold pv at hc
  refine hc.mono ?_
  clear hc
  rintro e w3 ⟨nx, rfl, hnx, hb3⟩
  have C3 := C2.step hb3
  obtain ⟨r0, r1, r2⟩ := C3.cells
  have hnx2 : ab nx = ascore (ab k) (ab g) (ab 0) (bs ++ [b]) := by rw [ascore_snoc, ← hnow]; exact hnx
  have Hnx := Lib.hid hnx2
  have hwl := C3.lt
  clear hnx hnx2 hnow C0 C1 C2 hb1 hb2 hb3 p0 p1 p2 q0 q1 q2
  go_upto_region 7 with fail
  have CB := Lib.hid (fun (w' : World) (h : w'.cell? ⟨w.heap.size, 0, none⟩ = some (.float .f64 k) ∧ w'.cell? ⟨w.heap.size, 1, none⟩ = some (.float .f64 g) ∧ w'.cell? ⟨w.heap.size, 2, none⟩ = some (.float .f64 l) ∧ Below w3.heap.size w3 w') => C3.bools.below h.2.2.2)
  have CW := C3.below
  clear C3
  have CS : ∀ (X : Option Addr) (c base : Nat) (w' : World), w'.ownsRow base 4 1 (.slice X (n + 1) c) (n + 1) ((bs ++ [b]).map Value.bool) → Calls Try.prog 23 #[.agg #[.float .f64 k, .float .f64 g, .float .f64 l], .slice X (n + 1) c] w' (FloatIs (ascore (ab k) (ab g) (ab 0) (bs ++ [b])) w') :=
    fun X c base w' h => score_of k g l c (bools_of_row h) (by omega)
  have CS1 := Lib.hid CS
  clear CS
  go_region_held3 (fun w' => w'.cell? ⟨w.heap.size, 0, none⟩ = some (.float .f64 k) ∧ w'.cell? ⟨w.heap.size, 1, none⟩ = some (.float .f64 g) ∧ w'.cell? ⟨w.heap.size, 2, none⟩ = some (.float .f64 l) ∧ Below w3.heap.size w3 w')
    (first | (refine ⟨?_, ?_, ?_, ?_⟩ <;> first | exact (Below.refl _ _).drew | go_keep) | exact keepG hwl (Nat.le_refl _) (by assumption) hb4 | exact keepR hwl (by assumption) hb4 | exact keepR hwl (by assumption) hb6 | exact keepR hwl (by assumption) hb7 | exact keepG hwl (Nat.le_refl _) (by assumption) hb5 | exact keepG hwl (by simp [World.drew]) (by assumption) hb5 | exact keepG hwl (Nat.le_trans (by simp) (Nat.le_trans hb4.size (by simp))) (by assumption) (Below.news _ _) | exact keepG hwl (Nat.le_refl _) ⟨r0, r1, r2, Below.refl _ _⟩ (Below.news w3 _).drew | exact keepG hwl (Nat.le_refl _) (by assumption) (Below.news _ _))
    ((first | (refine step_copy rfl _ _ rfl rfl A n cap bs rfl (CB.out _ (by assumption)) hA hn ?_; intro v4 w4 hown4 hb4) | (refine step_push rfl _ _ rfl _ v4 n bs rfl (hown4.alloc _) (Nat.le_trans hb4.size (by simp)) _ _ b rfl (by go_simp) hn ?_; intro v5 w5 hown5 hb5; obtain ⟨X, c5, rfl⟩ := row_shape hown5) | (refine step_push rfl _ _ rfl _ v4 n bs rfl hown4 hb4.size _ _ b rfl ((hb4.cell (by simp)).trans (by go_simp)) hn ?_; intro v5 w5 hown5 hb5; obtain ⟨X, c5, rfl⟩ := row_shape hown5) | (go_at_call 23; refine (CS1.out _ _ _ _ hown5).mono ?_; rintro e w6 ⟨r, rfl, hr, hb6⟩) | (go_at_call 25; refine (same_any r nx (hr.trans Hnx.out.symm) _).mono ?_; rintro e w7 ⟨rfl, hb7⟩)))
  all_goals
    have HS : w7.cell? ⟨w.heap.size, 0, none⟩ = some (.float .f64 k) ∧ w7.cell? ⟨w.heap.size, 1, none⟩ = some (.float .f64 g) ∧ w7.cell? ⟨w.heap.size, 2, none⟩ = some (.float .f64 l) ∧ Below w3.heap.size w3 w7 := by assumption
    have HB : Below w.heap.size w w7 := CW.trans (HS.2.2.2.mono (Nat.le_of_lt hwl))
    have hwl7 : w.heap.size < w7.heap.size := Nat.lt_of_lt_of_le hwl HS.2.2.2.size
    clear CB CW CS1 hown4 hown5 hb4 hb5 hb6 hb7 hr Hnx r0 r1 r2
    obtain ⟨s0, s1, s2, _⟩ := HS
    clear hwl
    have HK := Lib.hid (fun (w' : World) (h : Below w7.heap.size w7 w') => keepR hwl7 ⟨s0, s1, s2, Below.refl _ _⟩ h)
    go_upto_region 9 with fail
    have CE := Lib.hid (eager_any k g l s)
    have CP := Lib.hid (plain_any k g l)
    unfold pv at CE CP
    by_cases e2 : FloatKind.f64.format.order l l = some .eq
    · by_cases e1 : FloatKind.f64.format.order s s = some .eq
      · rw [eager_lss e1 e2] at CE
        generalize hlt : (FloatKind.f64.format.order s l == some .lt) = bl at *
        go_upto_region 11 with fail
        go_region_held3 (fun w' => w'.cell? ⟨w.heap.size, 0, none⟩ = some (.float .f64 k) ∧ w'.cell? ⟨w.heap.size, 1, none⟩ = some (.float .f64 g) ∧ w'.cell? ⟨w.heap.size, 2, none⟩ = some (.float .f64 l) ∧ Below w7.heap.size w7 w')
          (first | (refine ⟨?_, ?_, ?_, ?_⟩ <;> first | exact (Below.refl _ _).drew | go_keep) | exact keepR hwl7 (by assumption) hb8)
          ((first | (go_at_call 13; refine (CE.out _).mono ?_; rintro e w8 ⟨rfl, hb8⟩)))
        have HS8 : w8.cell? ⟨w.heap.size, 0, none⟩ = some (.float .f64 k) ∧ w8.cell? ⟨w.heap.size, 1, none⟩ = some (.float .f64 g) ∧ w8.cell? ⟨w.heap.size, 2, none⟩ = some (.float .f64 l) ∧ Below w7.heap.size w7 w8 := by assumption
        go_wp2
        go_ret
        exact ⟨by simp, HB.trans (HS8.2.2.2.mono HB.size)⟩
      · rw [lazy_nan (.inl (self_nan e1))] at CE
        go_wp2_with (first | (go_at_call 13; refine (CE.out _).mono ?_; rintro e w8 ⟨rfl, hb8⟩; obtain ⟨t0, t1, t2, hbz⟩ := HK.out _ hb8))
        go_ret
        exact ⟨by simp, HB.trans (hbz.mono HB.size)⟩
    · rw [lazy_nan (.inr (self_nan e2))] at CE
      rw [plain_nan e2] at CP
      have e3 : (FloatKind.f64.format.order l l != some Ordering.eq) = true := by simp [e2]
      by_cases e1 : FloatKind.f64.format.order s s = some .eq
      · go_wp2_with (first | (go_at_call 13; refine (CE.out _).mono ?_; rintro e w8 ⟨rfl, hb8⟩; obtain ⟨t0, t1, t2, hbz⟩ := HK.out _ hb8) | (go_at_call 11; refine (CP.out _).mono ?_; rintro e w9 ⟨rfl, hb9⟩))
        go_ret
        exact ⟨by simp, HB.trans ((hbz.trans (hb9.mono hbz.size)).mono HB.size)⟩
      · go_wp2_with (first | (go_at_call 13; refine (CE.out _).mono ?_; rintro e w8 ⟨rfl, hb8⟩; obtain ⟨t0, t1, t2, hbz⟩ := HK.out _ hb8) | (go_at_call 11; refine (CP.out _).mono ?_; rintro e w9 ⟨rfl, hb9⟩))
        go_ret
        exact ⟨by simp, HB.trans ((hbz.trans (hb9.mono hbz.size)).mono HB.size)⟩

/-- The law, whatever came in. -/
theorem steps_any (k g l s : Nat) (b : Bool) {w : World} (A : Option Addr) (n cap : Nat) (bs : List Bool) (hv : Bools w A n bs) (hm : n ≤ maxLen) (hA : A = none → cap = 0) :
    Calls Try.prog 6 #[pv k g l, .float .f64 s, .bool b, .slice A n cap] w fun e w' => e = .returned (.bool true) ∧ Below w.heap.size w w' := by
  by_cases hn : 100 < n
  · exact steps_many k g l s b A n cap w hn hm
  · exact steps_few k g l s b A n cap bs w (by omega) hv hA
end Go.Proofs.Ytkakhjaaakophaa
