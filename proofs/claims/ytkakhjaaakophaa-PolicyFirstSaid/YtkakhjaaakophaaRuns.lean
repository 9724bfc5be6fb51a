/- What Run, Score and First compute: contracts. -/
import Derived.Test.YtkakhjaaakophaaScore
import Derived.Deep.DeepCutAuto
namespace Go.Proofs.Ytkakhjaaakophaa
open Go.RowKit Fl

theorem makes_funcP (fn : Fn) (first cap : Array Value) (w : World) : (Instr.makeFunc fn first cap).run Try.prog w = .ok (.func fn first cap) w := rfl

/-- The scores' end. -/
def ascore (k g : Option Nat) (s : Option Nat) (l : List Bool) : Option Nat := l.foldl (fun s b => anext k g s b) s
theorem ascore_snoc (k g s : Option Nat) (l : List Bool) (b : Bool) : ascore k g s (l ++ [b]) = anext k g (ascore k g s l) b := by unfold ascore; rw [List.foldl_append]; rfl
theorem take_snoc' (l : List Bool) (j : Nat) (h : j < l.length) : l.take (j + 1) = l.take j ++ [l[j]] := List.take_succ_eq_append_getElem h

theorem Boxes.below {w w' : World} {a c k g l s : Nat} (h : Boxes w a c k g l s) (hb : Below w.heap.size w w') : Boxes w' a c k g l s :=
  ⟨(hb.block a (Array.getElem?_eq_some_iff.1 h.1).1).trans h.1, (hb.block c (Array.getElem?_eq_some_iff.1 h.2).1).trans h.2⟩

theorem boxes_new (w : World) (k g l : Nat) : Boxes (((w.alloc (.cells #[.float .f64 k, .float .f64 g, .float .f64 l] 24)).alloc (.cells #[.float .f64 k, .float .f64 g, .float .f64 l] 24)).alloc (.cells #[.float .f64 0] 22)) (w.heap.size + 1) (w.heap.size + 2) k g l 0 := by
  have h := World.size_alloc w (.cells #[.float .f64 k, .float .f64 g, .float .f64 l] 24)
  refine ⟨?_, ?_⟩
  · rw [Below.heap_alloc _ _ _ (by simp)]
    have := heap_alloc_new (w.alloc (.cells #[.float .f64 k, .float .f64 g, .float .f64 l] 24)) (.cells #[.float .f64 k, .float .f64 g, .float .f64 l] 24)
    rw [h] at this; exact this
  · have := heap_alloc_new ((w.alloc (.cells #[.float .f64 k, .float .f64 g, .float .f64 l] 24)).alloc (.cells #[.float .f64 k, .float .f64 g, .float .f64 l] 24)) (.cells #[.float .f64 0] 22)
    rw [World.size_alloc, h] at this; exact this
theorem below_new (w : World) (k g l : Nat) : Below w.heap.size w (((w.alloc (.cells #[.float .f64 k, .float .f64 g, .float .f64 l] 24)).alloc (.cells #[.float .f64 k, .float .f64 g, .float .f64 l] 24)).alloc (.cells #[.float .f64 0] 22)) :=
  (((Below.refl _ _).alloc (Nat.le_refl _) _).alloc (by simp) _).alloc (by simp; omega) _

set_option maxHeartbeats 400000 in
theorem scorer_any (k g l : Nat) (w : World) :
    Calls Try.prog 34 #[pv k g l] w fun e w' => e = .returned (.func (.func 37) #[] #[.pointer (some ⟨w.heap.size, 0, none⟩), .pointer (some ⟨w.heap.size + 1, 0, none⟩)]) ∧ (w.alloc (.cells #[.float .f64 k, .float .f64 g, .float .f64 l] 24)).alloc (.cells #[.float .f64 0] 22) = w' := by
  unfold pv
  have hmf := makes_funcP
  go_enter Try.func34, Try.ntmps34
  go_wp2
  go_ret
  exact ⟨rfl, rfl⟩

set_option maxHeartbeats 800000 in
theorem score_any (k g l : Nat) (b off cap : Nat) (bs : List Bool) (w : World) (hc : ∀ i, (h : i < bs.length) → w.cell? ⟨b, off + i, none⟩ = some (.bool bs[i])) (hbl : bs ≠ [] → b < w.heap.size) (hm : bs.length ≤ 1000000) :
    Calls Try.prog 23 #[pv k g l, .slice (some ⟨b, off, none⟩) bs.length cap] w (FloatIs (ascore (ab k) (ab g) (ab 0) bs) w) := by
  have CS := Lib.hid (scorer_any k g l)
  unfold pv at CS ⊢
  go_enter Try.func23, Try.ntmps23
  go_wp2_with (go_at_call 34; refine (CS.out _).mono ?_; rintro e w' ⟨rfl, rfl⟩)
  go_loopw [5, 13] (fun v i wr => ∃ (j s : Nat), j ≤ bs.length ∧ i = .int .i64 j ∧ v = .float .f64 s ∧ ab s = ascore (ab k) (ab g) (ab 0) (bs.take j) ∧ Boxes wr (w.heap.size + 1) (w.heap.size + 2) k g l s ∧ Below w.heap.size w wr) (fun _ i _ => bs.length - (intOf i).toNat)
  case atStart => exact ⟨0, 0, Nat.zero_le _, rfl, rfl, rfl, boxes_new w k g l, below_new w k g l⟩
  case round =>
    obtain ⟨j, s, hj, rfl, rfl, hs, hbx, hbw⟩ := hrel
    have hs1 := Lib.hid hs
    have hbx1 := Lib.hid hbx
    clear hs hbx
    by_cases hlt : j < bs.length
    · have hcj : wr.cell? ⟨b, off + j, none⟩ = some (.bool bs[j]) := (hbw.cell (hbl (by rintro rfl; simp at hlt))).trans (hc j hlt)
      clear hc
      go_wp2_with (go_at_call 37; refine (step_any _ _ k g l s _ _ hbx1.out (by omega)).mono ?_; rintro e w' ⟨r, rfl, hr, hbx2, hg⟩; have hr1 := Lib.hid hr; clear hr)
      go_roundw
      case rel => exact ⟨j + 1, r, by omega, by go_num, rfl, by rw [take_snoc' bs j hlt, ascore_snoc, ← hs1.out]; exact hr1.out, hbx2, hbw.grown hg hbw.size (fun i hi => by cases hi; omega)⟩
      case measure => simp [intOf]; omega
    · clear hc
      go_wp2
      go_ret
      have e : bs.take j = bs := List.take_of_length_le (by omega)
      exact ⟨s, rfl, by rw [hs1.out, e], hbw⟩

/-- The scores behind each. -/
def arun (k g : Option Nat) : Option Nat → List Bool → List (Option Nat)
  | _, [] => []
  | s, b :: l => anext k g s b :: arun k g (anext k g s b) l
theorem arun_snoc (k g : Option Nat) (l : List Bool) (b : Bool) : ∀ s, arun k g s (l ++ [b]) = arun k g s l ++ [anext k g (ascore k g s l) b] := by
  induction l with
  | nil => intro s; rfl
  | cons c l ih => intro s; simp only [List.cons_append, arun]; rw [ih]; rfl
theorem arun_length (k g : Option Nat) (l : List Bool) : ∀ s, (arun k g s l).length = l.length := by
  induction l with
  | nil => intro s; rfl
  | cons c l ih => intro s; simp only [arun, List.length_cons, ih]

theorem Try.info22 : (Try.prog.info? 22).map (fun i => (i.zero, i.size, i.bytes)) = some (some (.float .f64 0), 1, 8) := by kernel_rfl

/-- The call hands back a row of its own: floats that are told as these; nothing old has turned. -/
def RunIs (as_ : List (Option Nat)) (w : World) (e : Ending) (w' : World) : Prop :=
  ∃ (v : Value) (rs : List Nat), e = .returned v ∧ w'.ownsRow w.heap.size 22 1 v as_.length (rs.map (Value.float .f64)) ∧ rs.map ab = as_ ∧ Below w.heap.size w w'

theorem ownsRow_mono {w : World} {base base' : Nat} {e : TypeId} {size : Nat} {v : Value} {n : Nat} {xs : List Value} (h : w.ownsRow base e size v n xs) (hb : base' ≤ base) : w.ownsRow base' e size v n xs := by
  refine ⟨h.1, ?_⟩
  rcases h.2 with h1 | ⟨g, cap, cur, rfl, h1, h2⟩
  · exact .inl h1
  · exact .inr ⟨g, cap, cur, rfl, Nat.le_trans hb h1, h2⟩
theorem ne_of_apart {row : Option Nat} {a : Nat} (h : row = none ∨ row ≠ some a) : some a ≠ row := by
  rcases h with rfl | h
  · simp
  · exact fun e => h e.symm
theorem Boxes.kept {w w' : World} {a c k g l s : Nat} {row : Option Nat} (h : Boxes w a c k g l s) (hg : w.grownBy w' row) (ha : row = none ∨ row ≠ some a) (hc : row = none ∨ row ≠ some c) : Boxes w' a c k g l s :=
  ⟨(hg.block a (Array.getElem?_eq_some_iff.1 h.1).1 (ne_of_apart ha)).trans h.1, (hg.block c (Array.getElem?_eq_some_iff.1 h.2).1 (ne_of_apart hc)).trans h.2⟩
theorem own_apart {w : World} {base : Nat} {e : TypeId} {size : Nat} {v : Value} {n : Nat} {xs : List Value} (h : w.ownsRow base e size v n xs) {c : Nat} (hc : c < base) : v.ownBlock = none ∨ v.ownBlock ≠ some c := by
  cases hv : v.ownBlock with
  | none => exact .inl rfl
  | some k => right; intro e; cases e; have := h.lt _ hv; omega

set_option maxHeartbeats 1600000 in
theorem run_any (k g l : Nat) (b off cap : Nat) (bs : List Bool) (w : World) (hc : ∀ i, (h : i < bs.length) → w.cell? ⟨b, off + i, none⟩ = some (.bool bs[i])) (hbl : bs ≠ [] → b < w.heap.size) (hm : bs.length ≤ 1000000) :
    Calls Try.prog 12 #[pv k g l, .slice (some ⟨b, off, none⟩) bs.length cap] w (RunIs (arun (ab k) (ab g) (ab 0) bs) w) := by
  have CS := Lib.hid (scorer_any k g l)
  obtain ⟨i0, hi, hz0, hz1, hz2⟩ := info_parts Try.info22
  unfold pv at CS ⊢
  go_enter Try.func12, Try.ntmps12
  go_wp2_with (go_at_call 34; refine (CS.out _).mono ?_; rintro e w' ⟨rfl, rfl⟩)
  go_loopw [5, 13] (fun v i wr => ∃ (j s : Nat) (rs : List Nat), j ≤ bs.length ∧ i = .int .i64 j ∧ ab s = ascore (ab k) (ab g) (ab 0) (bs.take j) ∧ Boxes wr (w.heap.size + 1) (w.heap.size + 2) k g l s ∧ Below w.heap.size w wr ∧ wr.ownsRow (w.heap.size + 3) 22 1 v j (rs.map (Value.float .f64)) ∧ rs.map ab = arun (ab k) (ab g) (ab 0) (bs.take j) ∧ w.heap.size + 3 ≤ wr.heap.size) (fun _ i _ => bs.length - (intOf i).toNat)
  case atStart => exact ⟨0, 0, [], Nat.zero_le _, rfl, rfl, boxes_new w k g l, below_new w k g l, World.ownsRow_nil _ _ _ _, rfl, by simp⟩
  case round =>
    obtain ⟨j, s, rs, hj, rfl, hs, hbx, hbw, hown, hrs, hsz⟩ := hrel
    have hs1 := Lib.hid hs
    have hbx1 := Lib.hid hbx
    have hrs1 := Lib.hid hrs
    clear hs hbx hrs
    by_cases hlt : j < bs.length
    · have hcj : wr.cell? ⟨b, off + j, none⟩ = some (.bool bs[j]) := (hbw.cell (hbl (by rintro rfl; simp at hlt))).trans (hc j hlt)
      clear hc
      go_wp2_with (first | (go_at_call 37; refine (step_any _ _ k g l s _ _ hbx1.out (by omega)).mono ?_; rintro e w1 ⟨r, rfl, hr, hbx2, hg⟩; have hr1 := Lib.hid hr; clear hr; have hown1 := hown.kept hg (own_apart hown (by omega))) | (at_builtin; refine wpList_append_own _ rfl _ _ 28 rfl (w.heap.size + 3) 22 i0 (.float .f64 0) 1 8 Try.underlying28 hi hz0 hz1 hz2 rfl (by decide) _ _ _ rfl (hown1.alloc _) ⟨w1.heap.size, 0, none⟩ 1 1 [.float .f64 r] rfl rfl ?c1 ?c2 ?c3 ?c4 ?c5 ?_))
      case c1 => exact cell_one_new _ _ _
      case c2 => intro u hu; simp at hu; subst hu; rfl
      case c3 => unfold maxLen; omega
      case c4 => omega
      case c5 => have := hg.size; simp; omega
      intro v' w2 hown2 hgrow2 _
      have hall : wr.grownBy w1 (some (w.heap.size + 2)) := hg
      have hb1 : Below w.heap.size w w1 := hbw.grown hg hbw.size (fun i hi => by cases hi; omega)
      have hb2 : Below w.heap.size w w2 := (hb1.alloc hb1.size _).grown hgrow2 (by have := hb1.size; simp; omega) (fun i hi => by have := (hown1.lt i hi).1; omega)
      have hbx3 : Boxes w2 (w.heap.size + 1) (w.heap.size + 2) k g l r := (hbx2.below ((Below.refl _ _).alloc (Nat.le_refl _) _)).kept hgrow2 (own_apart hown1 (by omega)) (own_apart hown1 (by omega))
      have hsz2 : w.heap.size + 3 ≤ w2.heap.size := by have h1 := hg.size; have h2 := hgrow2.size; simp at h2; omega
      rw [show List.map (Value.float .f64) rs ++ [Value.float .f64 r] = List.map (Value.float .f64) (rs ++ [r]) by simp] at hown2
      have hrs2 : (rs ++ [r]).map ab = arun (ab k) (ab g) (ab 0) (bs.take (j + 1)) := by rw [take_snoc' bs j hlt, arun_snoc, List.map_append, hrs1.out, ← hs1.out]; simp [hr1.out]
      have hs2 : ab r = ascore (ab k) (ab g) (ab 0) (bs.take (j + 1)) := by rw [take_snoc' bs j hlt, ascore_snoc, ← hs1.out]; exact hr1.out
      have hrs3 := Lib.hid hrs2
      have hs3 := Lib.hid hs2
      clear hrs2 hs2 hrs1 hs1 hr1 hbx1 hbx2 hown1 hall
      go_wp2
      go_roundw
      case rel => exact ⟨j + 1, r, rs ++ [r], by omega, by go_num, hs3.out, hbx3, hb2, hown2, hrs3.out, hsz2⟩
      case measure => simp [intOf]; omega
    · clear hc
      go_wp2
      go_ret
      have e : bs.take j = bs := List.take_of_length_le (by omega)
      have hl : j = (arun (ab k) (ab g) (ab 0) bs).length := by rw [arun_length]; omega
      rw [e] at hrs1
      refine ⟨_, rs, rfl, ?_, hrs1.out, hbw⟩
      rw [← hl]
      exact ownsRow_mono hown (by omega)

theorem keep_grown {w w1 : World} {a k g l : Nat} {row : Option Nat} (hg : w.grownBy w1 row) (hne : ¬ some a = row) (hl : a < w.heap.size) (c0 : w.cell? ⟨a, 0, none⟩ = some (.float .f64 k)) (c1 : w.cell? ⟨a, 1, none⟩ = some (.float .f64 g)) (c2 : w.cell? ⟨a, 2, none⟩ = some (.float .f64 l)) :
    w1.cell? ⟨a, 0, none⟩ = some (.float .f64 k) ∧ w1.cell? ⟨a, 1, none⟩ = some (.float .f64 g) ∧ w1.cell? ⟨a, 2, none⟩ = some (.float .f64 l) ∧ a < w1.heap.size :=
  ⟨(World.cell?_of_block (hg.block a hl hne)).trans c0, (World.cell?_of_block (hg.block a hl hne)).trans c1, (World.cell?_of_block (hg.block a hl hne)).trans c2, Nat.lt_of_lt_of_le hl hg.size⟩
theorem keep_below {w w1 : World} {a k g l : Nat} (hb : Below w.heap.size w w1) (c0 : w.cell? ⟨a, 0, none⟩ = some (.float .f64 k)) (c1 : w.cell? ⟨a, 1, none⟩ = some (.float .f64 g)) (c2 : w.cell? ⟨a, 2, none⟩ = some (.float .f64 l)) (hl : a < w.heap.size) :
    w1.cell? ⟨a, 0, none⟩ = some (.float .f64 k) ∧ w1.cell? ⟨a, 1, none⟩ = some (.float .f64 g) ∧ w1.cell? ⟨a, 2, none⟩ = some (.float .f64 l) ∧ a < w1.heap.size :=
  ⟨(hb.cell hl).trans c0, (hb.cell hl).trans c1, (hb.cell hl).trans c2, Nat.lt_of_lt_of_le hl hb.size⟩

/-- Where a file is eager first. -/
def afirst (k g l : Option Nat) : Option Nat → List Bool → Option Nat
  | _, [] => none
  | s, b :: t => if ageq (anext k g s b) l then some 0 else (afirst k g l (anext k g s b) t).map (· + 1)
/-- As the call tells it. -/
def firstV : Option Nat → Value
  | none => .tuple #[.int .i64 0, .bool false]
  | some i => .tuple #[.int .i64 i, .bool true]

theorem afirst_at (k g l s : Option Nat) (bs : List Bool) (j : Nat) (h : j < bs.length) :
    afirst k g l s (bs.drop j) = if ageq (anext k g s bs[j]) l then some 0 else (afirst k g l (anext k g s bs[j]) (bs.drop (j + 1))).map (· + 1) := by
  rw [List.drop_eq_getElem_cons h]; rfl

set_option maxHeartbeats 1600000 in
theorem first_any (k g l : Nat) (b off cap : Nat) (bs : List Bool) (w : World) (hc : ∀ i, (h : i < bs.length) → w.cell? ⟨b, off + i, none⟩ = some (.bool bs[i])) (hbl : bs ≠ [] → b < w.heap.size) (hm : bs.length ≤ 1000000) :
    Calls Try.prog 27 #[pv k g l, .slice (some ⟨b, off, none⟩) bs.length cap] w fun e w' => e = .returned (firstV (afirst (ab k) (ab g) (ab l) (ab 0) bs)) ∧ Below w.heap.size w w' := by
  have CS := Lib.hid (scorer_any k g l)
  have CE := Lib.hid (eager_any k g l)
  unfold pv at CS CE ⊢
  go_enter Try.func27, Try.ntmps27
  go_wp2_with (go_at_call 34; refine (CS.out _).mono ?_; rintro e w' ⟨rfl, rfl⟩)
  go_loopw [13] (fun i wr => ∃ (j s : Nat), j ≤ bs.length ∧ i = .int .i64 j ∧ afirst (ab k) (ab g) (ab l) (ab 0) bs = (afirst (ab k) (ab g) (ab l) (ab s) (bs.drop j)).map (· + j) ∧ Boxes wr (w.heap.size + 1) (w.heap.size + 2) k g l s ∧ Below w.heap.size w wr ∧ wr.heap[w.heap.size]? = some (.cells #[.float .f64 k, .float .f64 g, .float .f64 l] 24 (0, 0))) (fun i _ => bs.length - (intOf i).toNat)
  case atStart => exact ⟨0, 0, Nat.zero_le _, rfl, by simp, boxes_new w k g l, below_new w k g l, by rw [Below.heap_alloc _ _ _ (by simp; omega), Below.heap_alloc _ _ _ (by simp)]; exact heap_alloc_new w _⟩
  case round =>
    obtain ⟨j, s, hj, rfl, hs, hbx, hbw, hp⟩ := hrel
    have hs1 := Lib.hid hs
    have hbx1 := Lib.hid hbx
    have c0 : wr.cell? ⟨w.heap.size, 0, none⟩ = some (.float .f64 k) := by simp [World.cell?, hp]
    have c1 : wr.cell? ⟨w.heap.size, 1, none⟩ = some (.float .f64 g) := by simp [World.cell?, hp]
    have c2 : wr.cell? ⟨w.heap.size, 2, none⟩ = some (.float .f64 l) := by simp [World.cell?, hp]
    have hp1 := Lib.hid hp
    clear hs hbx hp
    by_cases hlt : j < bs.length
    · have hcj : wr.cell? ⟨b, off + j, none⟩ = some (.bool bs[j]) := (hbw.cell (hbl (by rintro rfl; simp at hlt))).trans (hc j hlt)
      clear hc
      have hwl : w.heap.size < wr.heap.size := (Array.getElem?_eq_some_iff.1 hp1.out).1
      have hda := afirst_at (ab k) (ab g) (ab l) (ab s) bs j hlt
      have hda1 := Lib.hid hda
      clear hda
      go_upto_region 5 with fail
      go_region_held3 (fun w' => w'.cell? ⟨w.heap.size, 0, none⟩ = some (.float .f64 k) ∧ w'.cell? ⟨w.heap.size, 1, none⟩ = some (.float .f64 g) ∧ w'.cell? ⟨w.heap.size, 2, none⟩ = some (.float .f64 l) ∧ w.heap.size < w'.heap.size)
        (first | go_keep | exact keep_grown hg (by simp; omega) hwl c0 c1 c2 | (go_split_ands; exact keep_below hb2 (by assumption) (by assumption) (by assumption) (by assumption)))
        ((first | (go_at_call 37; refine (step_any _ _ k g l s _ _ (by exact hbx1.out) (by omega)).mono ?_; rintro e w1 ⟨r, rfl, hr, hbx2, hg⟩; have hr1 := Lib.hid hr; clear hr) | (go_at_call 13; refine (CE.out _ _).mono ?_; rintro e w2 ⟨rfl, hb2⟩)))
      have hb1 : Below w.heap.size w w1 := hbw.drew.grown hg hbw.size (fun i hi => by cases hi; omega)
      have hB : Below w.heap.size w w2 := hb1.trans (hb2.mono hb1.size)
      have hp2 : w2.heap[w.heap.size]? = some (.cells #[.float .f64 k, .float .f64 g, .float .f64 l] 24 (0, 0)) := (hb2.block _ (Nat.lt_of_lt_of_le hwl hg.size)).trans ((hg.block _ hwl (by simp; omega)).trans hp1.out)
      have hp3 := Lib.hid hp2
      have hbx3 := Lib.hid (hbx2.below hb2)
      clear hp2 hbx2
      cases hq : ageq (ab r) (ab l)
      · have hs2 : afirst (ab k) (ab g) (ab l) (ab 0) bs = (afirst (ab k) (ab g) (ab l) (ab r) (bs.drop (j + 1))).map (· + (j + 1)) := by
          rw [hs1.out, hda1.out, ← hr1.out, hq, if_neg (by simp), Option.map_map]
          congr 1; funext x; simp; omega
        have hs3 := Lib.hid hs2
        clear hs2
        go_wp2
        go_roundw
        case rel => exact ⟨j + 1, r, by omega, by go_num, hs3.out, hbx3.out, hB, hp3.out⟩
        case measure => simp [intOf]; omega
      · have hs2 : afirst (ab k) (ab g) (ab l) (ab 0) bs = some j := by
          rw [hs1.out, hda1.out, ← hr1.out, hq, if_pos rfl]; simp
        have hs3 := Lib.hid hs2
        clear hs2
        go_wp2
        go_ret2
        exact ⟨by rw [hs3.out]; rfl, hB⟩
    · clear hc
      go_wp2
      go_ret2
      have e : bs.drop j = [] := List.drop_eq_nil_of_le (by omega)
      rw [e] at hs1
      exact ⟨by rw [hs1.out]; rfl, hbw⟩
end Go.Proofs.Ytkakhjaaakophaa
