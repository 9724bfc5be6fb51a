/- Power that is armed, and fails: what a bank's functions leave then (package bank). -/
import Derived.Test.YtdnoniolpplgiaaWake
namespace Go.Proofs.Ytdnoniolpplgiaa
open Go.RowKit Go.Maps Go.Sort Go.Shelf

/-- On the way from words f to words g: nothing failed, or something did. -/
def Way (r : Int × Dv) (f g : Int → Int) (n : Int) : Prop := r.2.n = n ∧ ((r.1 = 0 ∧ Half r.2 g g) ∨ (r.1 ≠ 0 ∧ Half r.2 f g))
/-- A device whose power may be armed. -/
structure Arm (d : Dv) (f : Int → Int) (n : Int) : Prop where
  dead : d.dead = false
  cl : Cl d f
  n : d.n = n
theorem Ok.arm {d : Dv} {f : Int → Int} {n : Int} (h : Ok d f n) (a : Int) : Arm { d with armed := a } f n := ⟨h.dead, h.cl, h.n⟩
theorem Arm.lay {d : Dv} {f : Int → Int} {n a : Int} {xs : List Int} {r : Int × Dv} (h : Arm d f n) (h0 : 0 ≤ a) (h1 : a + xs.length ≤ n) (hL : LayIs d a xs r) : (r.1 = 0 ∧ Arm r.2 (updF f a xs) n) ∨ (r.1 ≠ 0 ∧ r.2.n = n ∧ Half r.2 f (updF f a xs)) := by
  rcases lay_law h.dead h.cl h0 (by rw [h.n]; exact h1) hL with ⟨e1, e2, e3⟩ | ⟨e1, _, e3, e4⟩
  · exact .inl ⟨e1, e2.dead, e3, e2.n.trans h.n⟩
  · exact .inr ⟨by rw [e1]; decide, e3.trans h.n, e4⟩
section
variable {w : World} {t m c y n cap N : Nat} {T : List Int} {d : Dv} {p b i l q : Int} {many : Int} {f : Int → Int}
theorem arm_ex (h : EX w w t m c y T d N) {a : Int} (ha : W64 a) : Calls Try.prog 14 #[.pointer (some ⟨t, 0, none⟩), .int .i64 a] w fun e w' => e = .returned (.tuple #[]) ∧ EX w w' t m c y T { d with armed := max a 0 } N := by
  refine (arm_any h.dev ha).mono ?_
  rintro e w' ⟨rfl, hD, hk⟩
  exact ⟨rfl, hD, h.t64, h.few, hk⟩
theorem switch_cut (h : EX w w t m c y T d N) (hA : Arm d f many) (hm : 3 ≤ many) (e k : Int) (h0 : 0 ≤ e) (h1 : e ≤ 1099511627776) (hN : N ≤ 20000) : Calls Try.prog 45 #[.pointer (some ⟨t, 0, none⟩), .int .i64 e, .int .i64 k] w fun en w' => ∃ T' r, en = .returned (.int .i64 r.1) ∧ Way r f (updF f 2 [rootV e k]) many ∧ EX w w' t m c y T' r.2 (N + 12) := by
  refine (switch_any h e k h0 h1 (by omega)).mono ?_
  rintro en w' ⟨T', r, rfl, hL, hE⟩
  refine ⟨T', r, rfl, ?_, hE⟩
  rcases hA.lay (by omega) (by simp; omega) hL with ⟨e1, e2⟩ | ⟨e1, e2, e3⟩
  · exact ⟨e2.n, .inl ⟨e1, e2.cl.half⟩⟩
  · exact ⟨e2, .inr ⟨e1, e3⟩⟩
theorem crash_cut (h : EX w w t m c y T d N) {g f0 : Int → Int} (hH : Half d f0 g) {A : Option Addr} {keep : List Bool} (hn : d.n = many) (cap : Nat) (hB : Bools w A n keep) (hA : keep ≠ [] → ∀ a, A = some a → a.block ∉ [t, m, c, y]) :
    Calls Try.prog 20 #[.pointer (some ⟨t, 0, none⟩), .slice A n cap] w fun e w' => ∃ c' y' d' f', e = .returned (.tuple #[]) ∧ Ok d' f' many ∧ (∀ k, f' k = f0 k ∨ f' k = g k) ∧ DevIs w' t m c' y' T d' ∧ Kept [t, m, c, y] w w' := by
  obtain ⟨ks, hr, hm, _, _⟩ := dirtyD_any h.dev
  refine (crash_any h.dev h.t64 hr hm cap hB hA).mono ?_
  rintro e w' ⟨c', y', rfl, hD, hk, _, _⟩
  obtain ⟨f', hc, hf⟩ := crash_law hH hr hm keep
  refine ⟨c', y', _, f', rfl, ⟨rfl, rfl, hc, ?_⟩, hf, hD, hk⟩
  show (d.crashN ks keep ks.length).n = many
  rw [(crashN_alike d ks keep _).n]; exact hn
theorem root_cut (h : DevIs w t m c y T d) (hO : Ok d f many) (hm : 3 ≤ many) {e k : Int} (h0 : 0 ≤ e) (h1 : e ≤ 1099511627776) (k0 : 0 ≤ k) (k1 : k ≤ 1) (hr : f 2 = rootV e k) : Calls Try.prog 41 #[.pointer (some ⟨t, 0, none⟩)] w fun en w' => en = .returned (.tuple #[.int .i64 e, .int .i64 k, .int .i64 0]) ∧ w' = w := by
  have hv : 0 ≤ rootV e k ∧ rootV e k < 18446744073709551616 ∧ rootV e k / 2 = e ∧ rootV e k % 2 = k := by
    unfold rootV
    split <;> omega
  have := rootR_any h hO.dead (by rw [hO.n]; omega) (r := rootV e k) (by rw [hO.cl.holds]; exact hr) hv.1 hv.2.1 (by omega)
  rw [hv.2.2.1, hv.2.2.2] at this
  exact this
end
end Go.Proofs.Ytdnoniolpplgiaa
