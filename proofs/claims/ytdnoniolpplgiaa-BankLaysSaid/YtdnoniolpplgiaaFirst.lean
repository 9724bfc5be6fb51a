/- The first one of errors, of two closures: contracts (package bank). -/
import Derived.Test.YtdnoniolpplgiaaGuard
namespace Go.Proofs.Ytdnoniolpplgiaa
open Go.RowKit Go.Maps Go.Sort Go.Shelf

section
variable {w : World} {s p0 p1 p2 p3 p4 : Nat} {R1 R2 : World → Prop} {E : Int → World → Prop}
/-- An error, and what holds behind it. -/
def Erred (R : World → Prop) (E : Int → World → Prop) (e : Ending) (w : World) : Prop := ∃ er, e = .returned (.int .i64 er) ∧ (er = 0 → R w) ∧ (er ≠ 0 → E er w)
-- PAIR
set_option maxRecDepth 100000 in
set_option maxHeartbeats 8000000 in
theorem first_make (h0 : w.cell? ⟨s, 0, none⟩ = some (.func (.func 89) #[] #[.pointer (some ⟨p0, 0, none⟩), .pointer (some ⟨p1, 0, none⟩), .pointer (some ⟨p2, 0, none⟩), .pointer (some ⟨p3, 0, none⟩)]))
    (hR : ∀ w', R1 w' → w'.cell? ⟨s, 1, none⟩ = some (.func (.func 90) #[] #[.pointer (some ⟨p0, 0, none⟩), .pointer (some ⟨p1, 0, none⟩), .pointer (some ⟨p2, 0, none⟩), .pointer (some ⟨p3, 0, none⟩)]))
    (C0 : Calls Try.prog 89 #[.pointer (some ⟨p0, 0, none⟩), .pointer (some ⟨p1, 0, none⟩), .pointer (some ⟨p2, 0, none⟩), .pointer (some ⟨p3, 0, none⟩)] w (Erred R1 E))
    (C1 : ∀ w', R1 w' → Calls Try.prog 90 #[.pointer (some ⟨p0, 0, none⟩), .pointer (some ⟨p1, 0, none⟩), .pointer (some ⟨p2, 0, none⟩), .pointer (some ⟨p3, 0, none⟩)] w' (Erred R2 E)) :
    Calls Try.prog 69 #[.slice (some ⟨s, 0, none⟩) 2 2] w (Erred R2 E) := by
  have hmf : ∀ (fn : Fn) (first cap : Array Value) (w : World), (Instr.makeFunc fn first cap).run Try.prog w = .ok (.func fn first cap) w := fun _ _ _ _ => rfl
  have CC0 := Lib.hid C0
  have CC1 := Lib.hid C1
  have HR := Lib.hid hR
  have H0 := Lib.hid h0
  clear C0 C1 hR h0
  go_enter Try.func69, Try.ntmps69
  go_wp2
  go_loopw [8] (fun u wr => ∃ j : Nat, u = .int .i64 j ∧ (j = 0 ∧ wr = w ∨ j = 1 ∧ R1 wr ∨ j = 2 ∧ R2 wr)) (fun u _ => 2 - (intOf u).toNat)
  case atStart => exact ⟨0, rfl, .inl ⟨rfl, rfl⟩⟩
  case round =>
    obtain ⟨j, rfl, ⟨rfl, rfl⟩ | ⟨rfl, h1⟩ | ⟨rfl, h2⟩⟩ := hrel
    · have c0 := H0.out
      go_wp2_with (go_at_call 89; refine (CC0.out).mono ?_; rintro e w1 ⟨er, rfl, hz, hn⟩; have HZ := Lib.hid hz; have HN := Lib.hid hn; clear hz hn)
      all_goals first
        | (go_ret; exact ⟨er, rfl, fun h => by simp_all, HN.out⟩)
        | (go_roundw
           case rel => exact ⟨1, by go_num, .inr (.inl ⟨rfl, HZ.out (by simp_all)⟩)⟩
           case measure => simp [intOf])
    · have c1 := HR.out _ h1
      have H1 := Lib.hid h1
      clear h1
      go_wp2_with (go_at_call 90; refine (CC1.out _ H1.out).mono ?_; rintro e w1 ⟨er, rfl, hz, hn⟩; have HZ := Lib.hid hz; have HN := Lib.hid hn; clear hz hn)
      all_goals first
        | (go_ret; exact ⟨er, rfl, fun h => by simp_all, HN.out⟩)
        | (go_roundw
           case rel => exact ⟨2, by go_num, .inr (.inr ⟨rfl, HZ.out (by simp_all)⟩)⟩
           case measure => simp [intOf])
    · have H2 := Lib.hid h2
      clear h2
      go_wp2
      go_ret
      exact ⟨0, rfl, fun _ => H2.out, fun h => absurd rfl h⟩
-- PAIR
set_option maxRecDepth 100000 in
set_option maxHeartbeats 8000000 in
theorem first_app (h0 : w.cell? ⟨s, 0, none⟩ = some (.func (.func 70) #[] #[.pointer (some ⟨p0, 0, none⟩), .pointer (some ⟨p1, 0, none⟩), .pointer (some ⟨p2, 0, none⟩), .pointer (some ⟨p3, 0, none⟩), .pointer (some ⟨p4, 0, none⟩)]))
    (hR : ∀ w', R1 w' → w'.cell? ⟨s, 1, none⟩ = some (.func (.func 72) #[] #[.pointer (some ⟨p0, 0, none⟩), .pointer (some ⟨p1, 0, none⟩), .pointer (some ⟨p2, 0, none⟩), .pointer (some ⟨p3, 0, none⟩), .pointer (some ⟨p4, 0, none⟩)]))
    (C0 : Calls Try.prog 70 #[.pointer (some ⟨p0, 0, none⟩), .pointer (some ⟨p1, 0, none⟩), .pointer (some ⟨p2, 0, none⟩), .pointer (some ⟨p3, 0, none⟩), .pointer (some ⟨p4, 0, none⟩)] w (Erred R1 E))
    (C1 : ∀ w', R1 w' → Calls Try.prog 72 #[.pointer (some ⟨p0, 0, none⟩), .pointer (some ⟨p1, 0, none⟩), .pointer (some ⟨p2, 0, none⟩), .pointer (some ⟨p3, 0, none⟩), .pointer (some ⟨p4, 0, none⟩)] w' (Erred R2 E)) :
    Calls Try.prog 69 #[.slice (some ⟨s, 0, none⟩) 2 2] w (Erred R2 E) := by
  have hmf : ∀ (fn : Fn) (first cap : Array Value) (w : World), (Instr.makeFunc fn first cap).run Try.prog w = .ok (.func fn first cap) w := fun _ _ _ _ => rfl
  have CC0 := Lib.hid C0
  have CC1 := Lib.hid C1
  have HR := Lib.hid hR
  have H0 := Lib.hid h0
  clear C0 C1 hR h0
  go_enter Try.func69, Try.ntmps69
  go_wp2
  go_loopw [8] (fun u wr => ∃ j : Nat, u = .int .i64 j ∧ (j = 0 ∧ wr = w ∨ j = 1 ∧ R1 wr ∨ j = 2 ∧ R2 wr)) (fun u _ => 2 - (intOf u).toNat)
  case atStart => exact ⟨0, rfl, .inl ⟨rfl, rfl⟩⟩
  case round =>
    obtain ⟨j, rfl, ⟨rfl, rfl⟩ | ⟨rfl, h1⟩ | ⟨rfl, h2⟩⟩ := hrel
    · have c0 := H0.out
      go_wp2_with (go_at_call 70; refine (CC0.out).mono ?_; rintro e w1 ⟨er, rfl, hz, hn⟩; have HZ := Lib.hid hz; have HN := Lib.hid hn; clear hz hn)
      all_goals first
        | (go_ret; exact ⟨er, rfl, fun h => by simp_all, HN.out⟩)
        | (go_roundw
           case rel => exact ⟨1, by go_num, .inr (.inl ⟨rfl, HZ.out (by simp_all)⟩)⟩
           case measure => simp [intOf])
    · have c1 := HR.out _ h1
      have H1 := Lib.hid h1
      clear h1
      go_wp2_with (go_at_call 72; refine (CC1.out _ H1.out).mono ?_; rintro e w1 ⟨er, rfl, hz, hn⟩; have HZ := Lib.hid hz; have HN := Lib.hid hn; clear hz hn)
      all_goals first
        | (go_ret; exact ⟨er, rfl, fun h => by simp_all, HN.out⟩)
        | (go_roundw
           case rel => exact ⟨2, by go_num, .inr (.inr ⟨rfl, HZ.out (by simp_all)⟩)⟩
           case measure => simp [intOf])
    · have H2 := Lib.hid h2
      clear h2
      go_wp2
      go_ret
      exact ⟨0, rfl, fun _ => H2.out, fun h => absurd rfl h⟩
end
end Go.Proofs.Ytdnoniolpplgiaa
