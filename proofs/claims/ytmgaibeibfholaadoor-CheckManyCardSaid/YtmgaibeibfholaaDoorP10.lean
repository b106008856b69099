/- Terms, plainly; what kinds() gives; may a term be. -/
import Derived.Test.YtmgaibeibfholaaDoorP9
import Derived.Test.YtmgaibeibfholaaDoorQ0
import Derived.Laws.StructEq
import Derived.Laws.EntriesVeiled
namespace Go.Proofs.YtmgaibeibfholaaDoor
set_option maxRecDepth 100000
open Go.RowKit Go.Shelf Go.Maps Plain
set_option linter.unusedVariables false

/-- what lay there reads as before -/
theorem belowReads {W W' : World} {n : Nat} (h : Below n W W') : (∀ i j, i < n → W'.cell? ⟨i, j, none⟩ = W.cell? ⟨i, j, none⟩) ∧ ∀ i j, i < n → W'.frozen? ⟨i, j, none⟩ = W.frozen? ⟨i, j, none⟩ :=
  ⟨fun i j hi => h.cell (p := ⟨i, j, none⟩) hi, fun i j hi => h.frozen (p := ⟨i, j, none⟩) hi⟩

structure Tm where
  kind : Int
  text : ByteArray
  extra : ByteArray deriving DecidableEq
abbrev tmV (t : Tm) : Value := .agg #[.int .i64 t.kind, .string t.text, .string t.extra]
def xsdL : List UInt8 := [104, 116, 116, 112, 58, 47, 47, 119, 119, 119, 46, 119, 51, 46, 111, 114, 103, 47, 50, 48, 48, 49, 47, 88, 77, 76, 83, 99, 104, 101, 109, 97, 35, 115, 116, 114, 105, 110, 103]
def emB (s : ByteArray) : Bool := decide (s.size = 0)
/-- may a term be? -/
def mayT (t : Tm) : Bool :=
  if t.kind = 1 then iriB t.text && emB t.extra
  else if t.kind = 2 then wordB t.text 64 && emB t.extra
  else if t.kind = 3 then valB t.text && emB t.extra
  else if t.kind = 4 then valB t.text && tagB t.extra
  else if t.kind = 5 then valB t.text && (iriB t.extra && !(t.extra.toList == xsdL))
  else false
/-- texts that may be walked -/
def fitT (t : Tm) : Prop := t.text.size < 4294967281 ∧ t.extra.size < 4294967281

set_option maxHeartbeats 1000000 in
theorem kind1_any (t : Tm) (h : fitT t) (b : Bool) (hb : (iriB t.text && emB t.extra) = b) (w : World) :
    Calls Tryd.prog 47 #[tmV t] w fun e w' => e = .returned (.bool b) ∧ Below w.heap.size w w' := by
  obtain ⟨k, s, x⟩ := t
  obtain ⟨h1, h2⟩ := h
  dsimp only at h1 h2 hb
  obtain ⟨c, hc⟩ : ∃ c, iriB s = c := ⟨_, rfl⟩
  have he := empty_is x
  obtain ⟨d, hd⟩ : ∃ d, emB x = d := ⟨_, rfl⟩
  rw [hc, hd] at hb
  unfold emB at hd
  rw [hd] at he
  have Hc := Lib.hid hc; have Hb := Lib.hid hb; clear hc hb hd
  show Calls _ _ #[.agg #[.int .i64 k, .string s, .string x]] _ _
  cases c
  all_goals
    go_enter Tryd.func47, Tryd.ntmps47
    go_wp2_with (go_at_call 48; refine (iri_any s (by omega) _ Hc.out _).mono ?_; rintro e w1 ⟨rfl, hB⟩; have HB := Lib.hid hB; obtain ⟨hcell, hfro⟩ := belowReads hB; clear hB)
    go_ret
    exact ⟨retB Hb.out, ((Below.refl _ _).alloc (Nat.le_refl _) _).trans (HB.out.mono (by simp))⟩
set_option maxHeartbeats 1000000 in
theorem kind2_any (t : Tm) (h : fitT t) (b : Bool) (hb : (wordB t.text 64 && emB t.extra) = b) (w : World) :
    Calls Tryd.prog 49 #[tmV t] w fun e w' => e = .returned (.bool b) ∧ Below w.heap.size w w' := by
  obtain ⟨k, s, x⟩ := t
  obtain ⟨h1, h2⟩ := h
  dsimp only at h1 h2 hb
  obtain ⟨c, hc⟩ : ∃ c, wordB s 64 = c := ⟨_, rfl⟩
  have he := empty_is x
  obtain ⟨d, hd⟩ : ∃ d, emB x = d := ⟨_, rfl⟩
  rw [hc, hd] at hb
  unfold emB at hd
  rw [hd] at he
  have Hc := Lib.hid hc; have Hb := Lib.hid hb; clear hc hb hd
  show Calls _ _ #[.agg #[.int .i64 k, .string s, .string x]] _ _
  cases c
  all_goals
    go_enter Tryd.func49, Tryd.ntmps49
    go_wp2_with (go_at_call 50; refine (blank_any s (by omega) _ Hc.out _).mono ?_; rintro e w1 ⟨rfl, rfl⟩)
    go_ret
    exact ⟨retB Hb.out, (Below.refl _ _).alloc (Nat.le_refl _) _⟩
set_option maxHeartbeats 1000000 in
theorem kind3_any (t : Tm) (h : fitT t) (b : Bool) (hb : (valB t.text && emB t.extra) = b) (w : World) :
    Calls Tryd.prog 51 #[tmV t] w fun e w' => e = .returned (.bool b) ∧ Below w.heap.size w w' := by
  obtain ⟨k, s, x⟩ := t
  obtain ⟨h1, h2⟩ := h
  dsimp only at h1 h2 hb
  obtain ⟨c, hc⟩ : ∃ c, valB s = c := ⟨_, rfl⟩
  have he := empty_is x
  obtain ⟨d, hd⟩ : ∃ d, emB x = d := ⟨_, rfl⟩
  rw [hc, hd] at hb
  unfold emB at hd
  rw [hd] at he
  have Hc := Lib.hid hc; have Hb := Lib.hid hb; clear hc hb hd
  show Calls _ _ #[.agg #[.int .i64 k, .string s, .string x]] _ _
  cases c
  all_goals
    go_enter Tryd.func51, Tryd.ntmps51
    go_wp2_with (go_at_call 52; refine (value_any s _ Hc.out _).mono ?_; rintro e w1 ⟨rfl, hB⟩; have HB := Lib.hid hB; obtain ⟨hcell, hfro⟩ := belowReads hB; clear hB)
    go_ret
    exact ⟨retB Hb.out, ((Below.refl _ _).alloc (Nat.le_refl _) _).trans (HB.out.mono (by simp))⟩
set_option maxHeartbeats 1000000 in
theorem kind4_any (t : Tm) (h : fitT t) (b : Bool) (hb : (valB t.text && tagB t.extra) = b) (w : World) :
    Calls Tryd.prog 53 #[tmV t] w fun e w' => e = .returned (.bool b) ∧ Below w.heap.size w w' := by
  obtain ⟨k, s, x⟩ := t
  obtain ⟨h1, h2⟩ := h
  dsimp only at h1 h2 hb
  obtain ⟨c, hc⟩ : ∃ c, valB s = c := ⟨_, rfl⟩
  obtain ⟨d, hd⟩ : ∃ d, tagB x = d := ⟨_, rfl⟩
  rw [hc, hd] at hb
  have Hc := Lib.hid hc; have Hd := Lib.hid hd; have Hb := Lib.hid hb; clear hc hb hd
  show Calls _ _ #[.agg #[.int .i64 k, .string s, .string x]] _ _
  cases c
  all_goals
    go_enter Tryd.func53, Tryd.ntmps53
    go_wp2_with (first
      | (go_at_call 52; refine (value_any s _ Hc.out _).mono ?_; rintro e w1 ⟨rfl, hB⟩; have HB := Lib.hid hB; obtain ⟨hcell, hfro⟩ := belowReads hB; clear hB)
      | (go_at_call 54; refine (tag_any x h2 _ Hd.out _).mono ?_; rintro e w2 ⟨rfl, hB⟩; have HB2 := Lib.hid hB; clear hB))
    go_ret
    first
    | exact ⟨retB Hb.out, ((Below.refl _ _).alloc (Nat.le_refl _) _).trans ((HB.out.trans (HB2.out.mono HB.out.size)).mono (by simp))⟩
    | exact ⟨retB Hb.out, ((Below.refl _ _).alloc (Nat.le_refl _) _).trans (HB.out.mono (by simp))⟩
set_option maxHeartbeats 1000000 in
theorem kind5_any (t : Tm) (h : fitT t) (b : Bool) (hb : (valB t.text && (iriB t.extra && !(t.extra.toList == xsdL))) = b) (w : World) :
    Calls Tryd.prog 55 #[tmV t] w fun e w' => e = .returned (.bool b) ∧ Below w.heap.size w w' := by
  obtain ⟨k, s, x⟩ := t
  obtain ⟨h1, h2⟩ := h
  dsimp only at h1 h2 hb
  obtain ⟨c, hc⟩ : ∃ c, valB s = c := ⟨_, rfl⟩
  obtain ⟨d, hd⟩ : ∃ d, iriB x = d := ⟨_, rfl⟩
  rw [hc, hd] at hb
  have Hc := Lib.hid hc; have Hd := Lib.hid hd; have Hb := Lib.hid hb; clear hc hb hd
  show Calls _ _ #[.agg #[.int .i64 k, .string s, .string x]] _ _
  cases c
  · go_enter Tryd.func55, Tryd.ntmps55
    go_wp2_with (go_at_call 52; refine (value_any s _ Hc.out _).mono ?_; rintro e w1 ⟨rfl, hB⟩; have HB := Lib.hid hB; obtain ⟨hcell, hfro⟩ := belowReads hB; clear hB)
    go_ret
    exact ⟨retB Hb.out, ((Below.refl _ _).alloc (Nat.le_refl _) _).trans (HB.out.mono (by simp))⟩
  · cases d
    all_goals
      go_enter Tryd.func55, Tryd.ntmps55
      go_wp2_with (first
        | (go_at_call 52; refine (value_any s _ Hc.out _).mono ?_; rintro e w1 ⟨rfl, hB⟩; have HB := Lib.hid hB; obtain ⟨hcell, hfro⟩ := belowReads hB; have hz : w.heap.size < w1.heap.size := (by have := hB.size; simp at this; omega); clear hB)
        | (go_at_call 48; refine (iri_any x (by omega) _ Hd.out _).mono ?_; rintro e w2 ⟨rfl, hB⟩; have HB2 := Lib.hid hB; obtain ⟨hcell2, hfro2⟩ := belowReads hB; clear hB))
      go_ret
      exact ⟨retB Hb.out, ((Below.refl _ _).alloc (Nat.le_refl _) _).trans ((HB.out.trans (HB2.out.mono HB.out.size)).mono (by simp))⟩

section
variable {κ : Type} [DecidableEq κ] {enc : κ → Value} {ok : κ → Prop} {P : Program} (w : World) {ops : Array Oper} {rest : List Oper} {o : Oper} {a : Act} {Q : Exit → Act → World → Prop}
theorem wpList_insert_raw (hg : o.guard = none) (m x v : Operand) (t : TypeId) (hop : o.op = Op.insert t m x v)
    (k e : TypeId) (K : Kys P k enc ok) (ht : P.underlying t = some (.map k e)) (b : Nat) (f : κ → Option Value)
    (hm : a.eval m = .map (some b)) (hmap : MapAt enc ok w b f) (y : κ) (hy : ok y) (val : Value) (hx : a.eval x = enc y) (hv : a.eval v = val)
    (hK : ∀ w', MapAt enc ok w' b (upd f y (some val)) → w.mapTurned w' b → wpList P ops Q rest (a.put o.dst undef) w') :
    wpList P ops Q (o :: rest) a w := by
  refine wpList_plain hg fun K' hK' => ?_
  obtain ⟨w', hrun, r1, r2⟩ := hmap.put K ht hy val
  unfold Oper.wp
  simp [execOp, hop, hm, hx, hv, hrun, Result.andThen]
  exact hK' _ _ (hK w' r1 r2)
end
theorem turned_below {W W' : World} {b n : Nat} (h : W.mapTurned W' b) (hn : n ≤ b) (hz : n ≤ W.heap.size) : Below n W W' :=
  (Below.refl n W).grown h.grown hz (fun k e => by cases e; exact hn)

def i64ok (x : Int) : Prop := -9223372036854775808 ≤ x ∧ x ≤ 9223372036854775807
def iv (x : Int) : Value := .int .i64 x
theorem wf_i64 {x : Int} (h : i64ok x) : (Lit.int .i64 x).wf = true := by
  obtain ⟨h1, h2⟩ := h
  have e1 : IntKind.i64.min = -9223372036854775808 := by decide
  have e2 : IntKind.i64.max = 9223372036854775807 := by decide
  simp only [Lit.wf, e1, e2, Bool.and_eq_true, decide_eq_true_eq]
  exact ⟨h1, h2⟩
theorem kysK : Kys Tryd.prog 33 iv i64ok := ⟨int_keyed Tryd.underlying33, fun x hx => ⟨_, keyOf_int_mk Tryd.underlying33 (wf_i64 hx)⟩, fun x y _ _ h => by simpa [iv] using h⟩

def kindV (k : Int) : Value :=
  if k = 1 then .func (.func 47) #[] #[] else if k = 2 then .func (.func 49) #[] #[] else if k = 3 then .func (.func 51) #[] #[]
  else if k = 4 then .func (.func 53) #[] #[] else if k = 5 then .func (.func 55) #[] #[] else .nilFunc
theorem zeroFn (w : World) : (zeroValue 73).run Tryd.prog w = .ok .nilFunc w := by kernel_rfl
theorem kindV_of (f : Int → Option Value) (k : Int) (h : f = upd (upd (upd (upd (upd (fun _ => none) 1 (some (.func (.func 47) #[] #[]))) 2 (some (.func (.func 49) #[] #[]))) 3 (some (.func (.func 51) #[] #[]))) 4 (some (.func (.func 53) #[] #[]))) 5 (some (.func (.func 55) #[] #[]))) :
    (f k).getD .nilFunc = kindV k := by
  subst h
  unfold kindV upd
  by_cases h1 : k = 1
  · subst h1; rfl
  by_cases h2 : k = 2
  · subst h2; rfl
  by_cases h3 : k = 3
  · subst h3; rfl
  by_cases h4 : k = 4
  · subst h4; rfl
  by_cases h5 : k = 5
  · subst h5; rfl
  simp [h1, h2, h3, h4, h5]
set_option maxHeartbeats 1000000 in
theorem kinds_any (w : World) :
    Calls Tryd.prog 41 #[] w fun e w' => ∃ b, e = .returned (.map (some b)) ∧ (∀ k, i64ok k → (Instr.lookup 75 (.map (some b)) (.int .i64 k) false).run Tryd.prog w' = .ok (kindV k) w') ∧ Below w.heap.size w w' := by
  have hmm := @run_makeMap Tryd.prog
  have B0 : Below w.heap.size w (w.alloc (.map #[] 0)) := (Below.refl _ _).alloc (Nat.le_refl _) _
  have M0 := MapAt.made (enc := iv) (ok := i64ok) w
  obtain ⟨w1, r1, M1, t1⟩ := M0.put kysK Tryd.underlying75 (x := 1) ⟨by decide, by decide⟩ (.func (.func 47) #[] #[])
  have B1 : Below w.heap.size w w1 := B0.trans (turned_below t1 (Nat.le_refl _) B0.size)
  obtain ⟨w2, r2, M2, t2⟩ := M1.put kysK Tryd.underlying75 (x := 2) ⟨by decide, by decide⟩ (.func (.func 49) #[] #[])
  have B2 : Below w.heap.size w w2 := B1.trans (turned_below t2 (Nat.le_refl _) B1.size)
  obtain ⟨w3, r3, M3, t3⟩ := M2.put kysK Tryd.underlying75 (x := 3) ⟨by decide, by decide⟩ (.func (.func 51) #[] #[])
  have B3 : Below w.heap.size w w3 := B2.trans (turned_below t3 (Nat.le_refl _) B2.size)
  obtain ⟨w4, r4, M4, t4⟩ := M3.put kysK Tryd.underlying75 (x := 4) ⟨by decide, by decide⟩ (.func (.func 53) #[] #[])
  have B4 : Below w.heap.size w w4 := B3.trans (turned_below t4 (Nat.le_refl _) B3.size)
  obtain ⟨w5, r5, M5, t5⟩ := M4.put kysK Tryd.underlying75 (x := 5) ⟨by decide, by decide⟩ (.func (.func 55) #[] #[])
  have B5 : Below w.heap.size w w5 := B4.trans (turned_below t5 (Nat.le_refl _) B4.size)
  simp only [iv] at r1 r2 r3 r4 r5
  have HM := Lib.hid M5; have HB := Lib.hid B5
  clear M0 M1 M2 M3 M4 M5 B0 B1 B2 B3 B4 B5 t1 t2 t3 t4 t5
  go_enter Tryd.func41, Tryd.ntmps41
  go_wp2_with fail
  go_ret
  refine ⟨_, rfl, fun k hk => ?_, HB.out⟩
  have := HM.out.look kysK Tryd.underlying75 (zeroFn w5) false hk
  rw [kindV_of _ k rfl] at this
  exact this
end Go.Proofs.YtmgaibeibfholaaDoor
