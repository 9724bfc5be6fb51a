/- A device's guarded deed: contracts. -/
import Derived.Test.YtdnoniolpplgiaaTurn
namespace Go.Proofs.Ytdnoniolpplgiaa
open Go.RowKit Go.Maps Go.Sort Go.Shelf

theorem eql_cut (w : World) : (binOp .eql 20 (.iface 108 (.agg #[])) .nilIface).run Try.prog w = .ok (.bool false) w := by kernel_rfl
theorem assert_cut (w : World) : (Instr.typeAssert (.iface 108 (.agg #[])) 20 108 true).run Try.prog w = .ok (.tuple #[.agg #[], .bool true]) w := by kernel_rfl
set_option maxHeartbeats 1600000 in
theorem catch_idle (p : Addr) (w : World) :
    CallsD Try.prog 79 #[.pointer (some p)] .returning w fun e u' w' => e = .returned (.tuple #[]) ∧ u' = .returning ∧ w' = w := by
  refine callsD_of_wpS Try.func79 rfl fun c₀ cs hu => ?_
  apply wpS_seq
  apply wpS_region
  simp [wpOpsS, go_sem, recoverD, hu, Try.ntmps79, Exit.thenS]
  refine wpS_of_wp ?_
  go_wp2
  cases c₀
  simp_all [bodyPostS, results, Try.results79]

set_option maxHeartbeats 1600000 in
theorem catch_panicking (b : Nat) (x : Int) (older : List PanicEntry) (w : World) (hb : b < w.heap.size) (hc : w.cell? ⟨b, 0, none⟩ = some (.int .i64 x)) (hz : w.frozen? ⟨b, 0, none⟩ = false) :
    CallsD Try.prog 79 #[.pointer (some ⟨b, 0, none⟩)] (.panicking ({ v := .iface 108 (.agg #[]), recovered := false } :: older)) w fun e u' w' =>
      e = .returned (.tuple #[]) ∧ u' = .panicking ({ v := .iface 108 (.agg #[]), recovered := true } :: older) ∧ w' = (w.setCell ⟨b, 0, none⟩ (.int .i64 5)).alloc (.cells #[] 108) := by
  refine callsD_of_wpS Try.func79 rfl fun c₀ cs hu => ?_
  apply wpS_seq
  apply wpS_region
  simp [wpOpsS, go_sem, recoverD, hu, Try.ntmps79, Exit.thenS]
  refine wpS_of_wp ?_
  have hq := eql_cut
  have ha := assert_cut
  have hne : b ≠ w.heap.size := by omega
  have hba : Below w.heap.size w (w.alloc (.cells #[] 108)) := (Below.refl _ _).alloc (Nat.le_refl _) _
  have hc2 := (hba.cell (p := ⟨b, 0, none⟩) hb).trans hc
  have hz2 := (frozen_below hba (a := ⟨b, 0, none⟩) hb).trans hz
  change Code.wp Try.prog _ _ { tmps := #[.pointer (some ⟨b, 0, none⟩), undef, undef, undef, .iface 108 (.agg #[]), undef, undef, undef, undef, undef], defers := [] } w
  go_wp2
  simp [bodyPostS, results, Try.results79]

-- GUARDED
set_option maxRecDepth 100000 in
set_option maxHeartbeats 4000000 in
theorem guarded_go56 {w : World} {t m c y : Nat} {T : List Int} {d : Dv} (h : DevIs w t m c y T d) (ha : d.armed ≠ 1) (he : d.events < 900000000) (p0 p1 p2 : Nat) {T' : List Int} {d' : Dv}
    (CF : ∀ w1, DevIs w1 t m c y T d.tick → Kept [t, m, c, y] w w1 → Calls Try.prog 56 #[.pointer (some ⟨p0, 0, none⟩), .pointer (some ⟨p1, 0, none⟩), .pointer (some ⟨p2, 0, none⟩)] w1 (Left t m c y T' d' w1)) :
    Calls Try.prog 49 #[.pointer (some ⟨t, 0, none⟩), .func (.func 56) #[] #[.pointer (some ⟨p0, 0, none⟩), .pointer (some ⟨p1, 0, none⟩), .pointer (some ⟨p2, 0, none⟩)]] w fun e w' => e = .returned (.int .i64 0) ∧ DevIs w' t m c y T' d' ∧ Kept [t, m, c, y] w w' := by
  have hmf : ∀ (fn : Fn) (first cap : Array Value) (w : World), (Instr.makeFunc fn first cap).run Try.prog w = .ok (.func fn first cap) w := fun _ _ _ _ => rfl
  have H := Lib.hid h
  have CF' := Lib.hid CF
  have hlt := h.lt
  have HLT := Lib.hid hlt
  have hba : Below w.heap.size w (w.alloc (.cells #[.int .i64 0] 32)) := (Below.refl _ _).alloc (Nat.le_refl _) _
  have HBA := Lib.hid hba
  have hRn : w.heap.size ∉ [t, m, c, y] := fun hm => by have := hlt _ hm; omega
  have HRN := Lib.hid hRn
  clear h CF hlt hba hRn
  go_enter_defers Try.func49, Try.ntmps49
  go_wp2_with (first
    | (go_at_call 80; refine (event_go (H.out.below HBA.out) ha he).mono ?_; rintro e w1 ⟨rfl, hD1, hk1⟩; have HD1 := Lib.hid hD1; have HK1 := Lib.hid hk1; clear hD1 hk1)
    | (go_at_call 56; refine (CF'.out w1 HD1.out ((Kept.of_below HBA.out).trans HK1.out)).mono ?_; rintro e w2 ⟨rfl, hD2, hk2⟩; have HD2 := Lib.hid hD2; have HK2 := Lib.hid (HK1.out.trans hk2); have hRl : w.heap.size < w2.heap.size := (by have := HK2.out.size; simp at this; omega); have hRc := (HK2.out.cell (a := ⟨w.heap.size, 0, none⟩) (by simp) HRN.out).trans (show _ = some (Value.int .i64 0) by go_simp); have hRf := (HK2.out.frozen (a := ⟨w.heap.size, 0, none⟩) (by simp) HRN.out).trans (show _ = false by go_simp); clear hD2 hk2))
  refine leaves_cons (f := 79) (args := #[.pointer (some ⟨w.heap.size, 0, none⟩)]) (by simp) (by simp [go_sem]) ?_
  refine (catch_idle ⟨w.heap.size, 0, none⟩ _).mono ?_
  rintro e u' w'' ⟨rfl, rfl, rfl⟩
  have hKw : Kept [t, m, c, y] w w2 := (Kept.of_below HBA.out).trans HK2.out
  have hset := Lib.grownBy_setCell w2 w.heap.size 0 (.int .i64 0)
  have hDs := HD2.out.grown hset HRN.out
  have hKs : Kept [t, m, c, y] w (w2.setCell ⟨w.heap.size, 0, none⟩ (.int .i64 0)) := hKw.trans' (Kept.of_grown (S := [w.heap.size]) hset (by simp)) (fun i hi => .inr (by rw [List.mem_singleton] at hi; omega))
  have hres : (w2.setCell ⟨w.heap.size, 0, none⟩ (.int .i64 0)).cell? ⟨w.heap.size, 0, none⟩ = some (.int .i64 0) := World.cell?_setCell_same _ _ _ hRc
  simp [Leaves, settle, results, Try.results49, go_sem, hres]
  exact ⟨hDs, hKs⟩

set_option maxRecDepth 100000 in
set_option maxHeartbeats 4000000 in
theorem guarded_cut56 {w : World} {t m c y : Nat} {T : List Int} {d : Dv} (h : DevIs w t m c y T d) (ha : d.armed = 1) (p0 p1 p2 : Nat) :
    Calls Try.prog 49 #[.pointer (some ⟨t, 0, none⟩), .func (.func 56) #[] #[.pointer (some ⟨p0, 0, none⟩), .pointer (some ⟨p1, 0, none⟩), .pointer (some ⟨p2, 0, none⟩)]] w fun e w' => e = .returned (.int .i64 5) ∧ DevIs w' t m c y T d.cut ∧ Kept [t, m, c, y] w w' := by
  have hmf : ∀ (fn : Fn) (first cap : Array Value) (w : World), (Instr.makeFunc fn first cap).run Try.prog w = .ok (.func fn first cap) w := fun _ _ _ _ => rfl
  have H := Lib.hid h
  have hlt := h.lt
  have hba : Below w.heap.size w (w.alloc (.cells #[.int .i64 0] 32)) := (Below.refl _ _).alloc (Nat.le_refl _) _
  have HBA := Lib.hid hba
  have hRn : w.heap.size ∉ [t, m, c, y] := fun hm => by have := hlt _ hm; omega
  have HRN := Lib.hid hRn
  clear h hlt hba hRn
  go_enter_defers Try.func49, Try.ntmps49
  go_wp2_with (first
    | (go_at_call 80; refine (event_cut (H.out.below HBA.out) ha).mono ?_; rintro e w1 ⟨rfl, hD1, hk1⟩; have HD1 := Lib.hid hD1; have HK1 := Lib.hid hk1; have hRl : w.heap.size < w1.heap.size := (by have := HK1.out.size; simp at this; omega); have hRc := (HK1.out.cell (a := ⟨w.heap.size, 0, none⟩) (by simp) HRN.out).trans (show _ = some (Value.int .i64 0) by go_simp); have hRf := (HK1.out.frozen (a := ⟨w.heap.size, 0, none⟩) (by simp) HRN.out).trans (show _ = false by go_simp); clear hD1 hk1))
  refine leaves_cons (f := 79) (args := #[.pointer (some ⟨w.heap.size, 0, none⟩)]) (by simp) (by simp [go_sem]) ?_
  refine (catch_panicking w.heap.size 0 [] _ ?_ ?_ ?_).mono ?_
  · exact hRl
  · exact hRc
  · exact hRf
  rintro e u' w'' ⟨rfl, rfl, rfl⟩
  have hKw : Kept [t, m, c, y] w w1 := (Kept.of_below HBA.out).trans HK1.out
  have hset := Lib.grownBy_setCell w1 w.heap.size 0 (.int .i64 5)
  have hDs := HD1.out.grown hset HRN.out
  have hKs : Kept [t, m, c, y] w (w1.setCell ⟨w.heap.size, 0, none⟩ (.int .i64 5)) := hKw.trans' (Kept.of_grown (S := [w.heap.size]) hset (by simp)) (fun i hi => .inr (by rw [List.mem_singleton] at hi; omega))
  have hbs : Below (w1.setCell ⟨w.heap.size, 0, none⟩ (.int .i64 5)).heap.size (w1.setCell ⟨w.heap.size, 0, none⟩ (.int .i64 5)) ((w1.setCell ⟨w.heap.size, 0, none⟩ (.int .i64 5)).alloc (.cells #[] 108)) := (Below.refl _ _).alloc (Nat.le_refl _) _
  have hres : ((w1.setCell ⟨w.heap.size, 0, none⟩ (.int .i64 5)).alloc (.cells #[] 108)).cell? ⟨w.heap.size, 0, none⟩ = some (.int .i64 5) := (hbs.cell (p := ⟨w.heap.size, 0, none⟩) (Nat.lt_of_lt_of_le hRl hset.size)).trans (World.cell?_setCell_same _ _ _ hRc)
  have hDf := hDs.below hbs
  have hKf := hKs.trans (Kept.of_below hbs)
  clear hDs hKs hbs hset hKw
  simp [Leaves, settle, results, Try.results49, go_sem, hres]
  exact ⟨hDf, hKf⟩

set_option maxRecDepth 100000 in
set_option maxHeartbeats 4000000 in
theorem guarded_go50 {w : World} {t m c y : Nat} {T : List Int} {d : Dv} (h : DevIs w t m c y T d) (ha : d.armed ≠ 1) (he : d.events < 900000000) (p0 p1 : Nat) {T' : List Int} {d' : Dv}
    (CF : ∀ w1, DevIs w1 t m c y T d.tick → Kept [t, m, c, y] w w1 → Calls Try.prog 50 #[.pointer (some ⟨p0, 0, none⟩), .pointer (some ⟨p1, 0, none⟩)] w1 (Left t m c y T' d' w1)) :
    Calls Try.prog 49 #[.pointer (some ⟨t, 0, none⟩), .func (.func 50) #[] #[.pointer (some ⟨p0, 0, none⟩), .pointer (some ⟨p1, 0, none⟩)]] w fun e w' => e = .returned (.int .i64 0) ∧ DevIs w' t m c y T' d' ∧ Kept [t, m, c, y] w w' := by
  have hmf : ∀ (fn : Fn) (first cap : Array Value) (w : World), (Instr.makeFunc fn first cap).run Try.prog w = .ok (.func fn first cap) w := fun _ _ _ _ => rfl
  have H := Lib.hid h
  have CF' := Lib.hid CF
  have hlt := h.lt
  have HLT := Lib.hid hlt
  have hba : Below w.heap.size w (w.alloc (.cells #[.int .i64 0] 32)) := (Below.refl _ _).alloc (Nat.le_refl _) _
  have HBA := Lib.hid hba
  have hRn : w.heap.size ∉ [t, m, c, y] := fun hm => by have := hlt _ hm; omega
  have HRN := Lib.hid hRn
  clear h CF hlt hba hRn
  go_enter_defers Try.func49, Try.ntmps49
  go_wp2_with (first
    | (go_at_call 80; refine (event_go (H.out.below HBA.out) ha he).mono ?_; rintro e w1 ⟨rfl, hD1, hk1⟩; have HD1 := Lib.hid hD1; have HK1 := Lib.hid hk1; clear hD1 hk1)
    | (go_at_call 50; refine (CF'.out w1 HD1.out ((Kept.of_below HBA.out).trans HK1.out)).mono ?_; rintro e w2 ⟨rfl, hD2, hk2⟩; have HD2 := Lib.hid hD2; have HK2 := Lib.hid (HK1.out.trans hk2); have hRl : w.heap.size < w2.heap.size := (by have := HK2.out.size; simp at this; omega); have hRc := (HK2.out.cell (a := ⟨w.heap.size, 0, none⟩) (by simp) HRN.out).trans (show _ = some (Value.int .i64 0) by go_simp); have hRf := (HK2.out.frozen (a := ⟨w.heap.size, 0, none⟩) (by simp) HRN.out).trans (show _ = false by go_simp); clear hD2 hk2))
  refine leaves_cons (f := 79) (args := #[.pointer (some ⟨w.heap.size, 0, none⟩)]) (by simp) (by simp [go_sem]) ?_
  refine (catch_idle ⟨w.heap.size, 0, none⟩ _).mono ?_
  rintro e u' w'' ⟨rfl, rfl, rfl⟩
  have hKw : Kept [t, m, c, y] w w2 := (Kept.of_below HBA.out).trans HK2.out
  have hset := Lib.grownBy_setCell w2 w.heap.size 0 (.int .i64 0)
  have hDs := HD2.out.grown hset HRN.out
  have hKs : Kept [t, m, c, y] w (w2.setCell ⟨w.heap.size, 0, none⟩ (.int .i64 0)) := hKw.trans' (Kept.of_grown (S := [w.heap.size]) hset (by simp)) (fun i hi => .inr (by rw [List.mem_singleton] at hi; omega))
  have hres : (w2.setCell ⟨w.heap.size, 0, none⟩ (.int .i64 0)).cell? ⟨w.heap.size, 0, none⟩ = some (.int .i64 0) := World.cell?_setCell_same _ _ _ hRc
  simp [Leaves, settle, results, Try.results49, go_sem, hres]
  exact ⟨hDs, hKs⟩

set_option maxRecDepth 100000 in
set_option maxHeartbeats 4000000 in
theorem guarded_cut50 {w : World} {t m c y : Nat} {T : List Int} {d : Dv} (h : DevIs w t m c y T d) (ha : d.armed = 1) (p0 p1 : Nat) :
    Calls Try.prog 49 #[.pointer (some ⟨t, 0, none⟩), .func (.func 50) #[] #[.pointer (some ⟨p0, 0, none⟩), .pointer (some ⟨p1, 0, none⟩)]] w fun e w' => e = .returned (.int .i64 5) ∧ DevIs w' t m c y T d.cut ∧ Kept [t, m, c, y] w w' := by
  have hmf : ∀ (fn : Fn) (first cap : Array Value) (w : World), (Instr.makeFunc fn first cap).run Try.prog w = .ok (.func fn first cap) w := fun _ _ _ _ => rfl
  have H := Lib.hid h
  have hlt := h.lt
  have hba : Below w.heap.size w (w.alloc (.cells #[.int .i64 0] 32)) := (Below.refl _ _).alloc (Nat.le_refl _) _
  have HBA := Lib.hid hba
  have hRn : w.heap.size ∉ [t, m, c, y] := fun hm => by have := hlt _ hm; omega
  have HRN := Lib.hid hRn
  clear h hlt hba hRn
  go_enter_defers Try.func49, Try.ntmps49
  go_wp2_with (first
    | (go_at_call 80; refine (event_cut (H.out.below HBA.out) ha).mono ?_; rintro e w1 ⟨rfl, hD1, hk1⟩; have HD1 := Lib.hid hD1; have HK1 := Lib.hid hk1; have hRl : w.heap.size < w1.heap.size := (by have := HK1.out.size; simp at this; omega); have hRc := (HK1.out.cell (a := ⟨w.heap.size, 0, none⟩) (by simp) HRN.out).trans (show _ = some (Value.int .i64 0) by go_simp); have hRf := (HK1.out.frozen (a := ⟨w.heap.size, 0, none⟩) (by simp) HRN.out).trans (show _ = false by go_simp); clear hD1 hk1))
  refine leaves_cons (f := 79) (args := #[.pointer (some ⟨w.heap.size, 0, none⟩)]) (by simp) (by simp [go_sem]) ?_
  refine (catch_panicking w.heap.size 0 [] _ ?_ ?_ ?_).mono ?_
  · exact hRl
  · exact hRc
  · exact hRf
  rintro e u' w'' ⟨rfl, rfl, rfl⟩
  have hKw : Kept [t, m, c, y] w w1 := (Kept.of_below HBA.out).trans HK1.out
  have hset := Lib.grownBy_setCell w1 w.heap.size 0 (.int .i64 5)
  have hDs := HD1.out.grown hset HRN.out
  have hKs : Kept [t, m, c, y] w (w1.setCell ⟨w.heap.size, 0, none⟩ (.int .i64 5)) := hKw.trans' (Kept.of_grown (S := [w.heap.size]) hset (by simp)) (fun i hi => .inr (by rw [List.mem_singleton] at hi; omega))
  have hbs : Below (w1.setCell ⟨w.heap.size, 0, none⟩ (.int .i64 5)).heap.size (w1.setCell ⟨w.heap.size, 0, none⟩ (.int .i64 5)) ((w1.setCell ⟨w.heap.size, 0, none⟩ (.int .i64 5)).alloc (.cells #[] 108)) := (Below.refl _ _).alloc (Nat.le_refl _) _
  have hres : ((w1.setCell ⟨w.heap.size, 0, none⟩ (.int .i64 5)).alloc (.cells #[] 108)).cell? ⟨w.heap.size, 0, none⟩ = some (.int .i64 5) := (hbs.cell (p := ⟨w.heap.size, 0, none⟩) (Nat.lt_of_lt_of_le hRl hset.size)).trans (World.cell?_setCell_same _ _ _ hRc)
  have hDf := hDs.below hbs
  have hKf := hKs.trans (Kept.of_below hbs)
  clear hDs hKs hbs hset hKw
  simp [Leaves, settle, results, Try.results49, go_sem, hres]
  exact ⟨hDf, hKf⟩

set_option maxRecDepth 100000 in
set_option maxHeartbeats 4000000 in
theorem guarded_go52 {w : World} {t m c y : Nat} {T : List Int} {d : Dv} (h : DevIs w t m c y T d) (ha : d.armed ≠ 1) (he : d.events < 900000000) (p0 : Nat) {T' : List Int} {d' : Dv}
    (CF : ∀ w1, DevIs w1 t m c y T d.tick → Kept [t, m, c, y] w w1 → Calls Try.prog 52 #[.pointer (some ⟨p0, 0, none⟩)] w1 (Left t m c y T' d' w1)) :
    Calls Try.prog 49 #[.pointer (some ⟨t, 0, none⟩), .func (.func 52) #[] #[.pointer (some ⟨p0, 0, none⟩)]] w fun e w' => e = .returned (.int .i64 0) ∧ DevIs w' t m c y T' d' ∧ Kept [t, m, c, y] w w' := by
  have hmf : ∀ (fn : Fn) (first cap : Array Value) (w : World), (Instr.makeFunc fn first cap).run Try.prog w = .ok (.func fn first cap) w := fun _ _ _ _ => rfl
  have H := Lib.hid h
  have CF' := Lib.hid CF
  have hlt := h.lt
  have HLT := Lib.hid hlt
  have hba : Below w.heap.size w (w.alloc (.cells #[.int .i64 0] 32)) := (Below.refl _ _).alloc (Nat.le_refl _) _
  have HBA := Lib.hid hba
  have hRn : w.heap.size ∉ [t, m, c, y] := fun hm => by have := hlt _ hm; omega
  have HRN := Lib.hid hRn
  clear h CF hlt hba hRn
  go_enter_defers Try.func49, Try.ntmps49
  go_wp2_with (first
    | (go_at_call 80; refine (event_go (H.out.below HBA.out) ha he).mono ?_; rintro e w1 ⟨rfl, hD1, hk1⟩; have HD1 := Lib.hid hD1; have HK1 := Lib.hid hk1; clear hD1 hk1)
    | (go_at_call 52; refine (CF'.out w1 HD1.out ((Kept.of_below HBA.out).trans HK1.out)).mono ?_; rintro e w2 ⟨rfl, hD2, hk2⟩; have HD2 := Lib.hid hD2; have HK2 := Lib.hid (HK1.out.trans hk2); have hRl : w.heap.size < w2.heap.size := (by have := HK2.out.size; simp at this; omega); have hRc := (HK2.out.cell (a := ⟨w.heap.size, 0, none⟩) (by simp) HRN.out).trans (show _ = some (Value.int .i64 0) by go_simp); have hRf := (HK2.out.frozen (a := ⟨w.heap.size, 0, none⟩) (by simp) HRN.out).trans (show _ = false by go_simp); clear hD2 hk2))
  refine leaves_cons (f := 79) (args := #[.pointer (some ⟨w.heap.size, 0, none⟩)]) (by simp) (by simp [go_sem]) ?_
  refine (catch_idle ⟨w.heap.size, 0, none⟩ _).mono ?_
  rintro e u' w'' ⟨rfl, rfl, rfl⟩
  have hKw : Kept [t, m, c, y] w w2 := (Kept.of_below HBA.out).trans HK2.out
  have hset := Lib.grownBy_setCell w2 w.heap.size 0 (.int .i64 0)
  have hDs := HD2.out.grown hset HRN.out
  have hKs : Kept [t, m, c, y] w (w2.setCell ⟨w.heap.size, 0, none⟩ (.int .i64 0)) := hKw.trans' (Kept.of_grown (S := [w.heap.size]) hset (by simp)) (fun i hi => .inr (by rw [List.mem_singleton] at hi; omega))
  have hres : (w2.setCell ⟨w.heap.size, 0, none⟩ (.int .i64 0)).cell? ⟨w.heap.size, 0, none⟩ = some (.int .i64 0) := World.cell?_setCell_same _ _ _ hRc
  simp [Leaves, settle, results, Try.results49, go_sem, hres]
  exact ⟨hDs, hKs⟩

set_option maxRecDepth 100000 in
set_option maxHeartbeats 4000000 in
theorem guarded_cut52 {w : World} {t m c y : Nat} {T : List Int} {d : Dv} (h : DevIs w t m c y T d) (ha : d.armed = 1) (p0 : Nat) :
    Calls Try.prog 49 #[.pointer (some ⟨t, 0, none⟩), .func (.func 52) #[] #[.pointer (some ⟨p0, 0, none⟩)]] w fun e w' => e = .returned (.int .i64 5) ∧ DevIs w' t m c y T d.cut ∧ Kept [t, m, c, y] w w' := by
  have hmf : ∀ (fn : Fn) (first cap : Array Value) (w : World), (Instr.makeFunc fn first cap).run Try.prog w = .ok (.func fn first cap) w := fun _ _ _ _ => rfl
  have H := Lib.hid h
  have hlt := h.lt
  have hba : Below w.heap.size w (w.alloc (.cells #[.int .i64 0] 32)) := (Below.refl _ _).alloc (Nat.le_refl _) _
  have HBA := Lib.hid hba
  have hRn : w.heap.size ∉ [t, m, c, y] := fun hm => by have := hlt _ hm; omega
  have HRN := Lib.hid hRn
  clear h hlt hba hRn
  go_enter_defers Try.func49, Try.ntmps49
  go_wp2_with (first
    | (go_at_call 80; refine (event_cut (H.out.below HBA.out) ha).mono ?_; rintro e w1 ⟨rfl, hD1, hk1⟩; have HD1 := Lib.hid hD1; have HK1 := Lib.hid hk1; have hRl : w.heap.size < w1.heap.size := (by have := HK1.out.size; simp at this; omega); have hRc := (HK1.out.cell (a := ⟨w.heap.size, 0, none⟩) (by simp) HRN.out).trans (show _ = some (Value.int .i64 0) by go_simp); have hRf := (HK1.out.frozen (a := ⟨w.heap.size, 0, none⟩) (by simp) HRN.out).trans (show _ = false by go_simp); clear hD1 hk1))
  refine leaves_cons (f := 79) (args := #[.pointer (some ⟨w.heap.size, 0, none⟩)]) (by simp) (by simp [go_sem]) ?_
  refine (catch_panicking w.heap.size 0 [] _ ?_ ?_ ?_).mono ?_
  · exact hRl
  · exact hRc
  · exact hRf
  rintro e u' w'' ⟨rfl, rfl, rfl⟩
  have hKw : Kept [t, m, c, y] w w1 := (Kept.of_below HBA.out).trans HK1.out
  have hset := Lib.grownBy_setCell w1 w.heap.size 0 (.int .i64 5)
  have hDs := HD1.out.grown hset HRN.out
  have hKs : Kept [t, m, c, y] w (w1.setCell ⟨w.heap.size, 0, none⟩ (.int .i64 5)) := hKw.trans' (Kept.of_grown (S := [w.heap.size]) hset (by simp)) (fun i hi => .inr (by rw [List.mem_singleton] at hi; omega))
  have hbs : Below (w1.setCell ⟨w.heap.size, 0, none⟩ (.int .i64 5)).heap.size (w1.setCell ⟨w.heap.size, 0, none⟩ (.int .i64 5)) ((w1.setCell ⟨w.heap.size, 0, none⟩ (.int .i64 5)).alloc (.cells #[] 108)) := (Below.refl _ _).alloc (Nat.le_refl _) _
  have hres : ((w1.setCell ⟨w.heap.size, 0, none⟩ (.int .i64 5)).alloc (.cells #[] 108)).cell? ⟨w.heap.size, 0, none⟩ = some (.int .i64 5) := (hbs.cell (p := ⟨w.heap.size, 0, none⟩) (Nat.lt_of_lt_of_le hRl hset.size)).trans (World.cell?_setCell_same _ _ _ hRc)
  have hDf := hDs.below hbs
  have hKf := hKs.trans (Kept.of_below hbs)
  clear hDs hKs hbs hset hKw
  simp [Leaves, settle, results, Try.results49, go_sem, hres]
  exact ⟨hDf, hKf⟩

end Go.Proofs.Ytdnoniolpplgiaa
