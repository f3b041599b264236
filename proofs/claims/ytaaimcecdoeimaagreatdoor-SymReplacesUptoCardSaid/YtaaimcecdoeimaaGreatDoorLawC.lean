/-
  sym.values: every value of frames is yielded once, in order.
-/
import Derived.Test.YtaaimcecdoeimaaGreatDoorLawB
namespace Go.Abs.Sy
open Go.Abs

variable {E : Env}

/-- where a value of a frame lies: the frames in front, the frame; the block, the place, the value, and the frame with it turned -/
inductive Spot (T : SV → SV) (v : V) (n : Nat) (f : Fr) (vv sv : V) : Nat → Nat → SV → Fr → Prop where
  | self {b len : Nat} {c : Cap} : v = .sl b 0 len c → Spot T v n f vv sv b (n * 18 + 2) f.self { f with self := T f.self }
  | hold {b len : Nat} {c : Cap} : v = .sl b 0 len c → Spot T v n f vv sv b (n * 18 + 8) f.hold { f with hold := T f.hold }
  | vars {b len j : Nat} {c : Cap} {s : SV} : vv = .sl b 0 len c → f.vars[j]? = some s → Spot T v n f vv sv b (j * 6) s { f with vars := f.vars.set j (T s) }
  | stack {b len j : Nat} {c : Cap} {s : SV} : sv = .sl b 0 len c → f.stack[j]? = some s → Spot T v n f vv sv b (j * 6) s { f with stack := f.stack.set j (T s) }

/-- what holds between the rounds: the frames as they are, and the values so far -/
structure Iter (T : SV → SV) (lo : Nat) (v : V) (box : Nat) (y : V) (k0 : Nat) (E : Env) (I : List Row → List SV → H → Prop) : Prop where
  own : ∀ g seen h, I g seen h → OutR lo h v g ∧ h.rd box 0 1 = some [v]
  round : ∀ (A C : List Row) (f f' : Fr) (vv sv : V) (seen : List SV) (h : H) (b o : Nat) (s : SV), I (A ++ (f, vv, sv) :: C) seen h → Spot T v A.length f vv sv b o s f' →
    ∀ k, k0 ≤ k → callV E (sems E k) y [.int .i64 A.length, .ptr b o] h fun r h' => r = .ret (.bool true) ∧ I (A ++ (f', vv, sv) :: C) (seen ++ [s]) h'

/-- the frames' slice, and a frame's lists -/
theorem OutR.at {lo : Nat} {h : H} {v : V} {A C : List Row} {r : Row} (o : OutR lo h v (A ++ r :: C)) : ∃ b, v = .sl b 0 (A ++ r :: C).length (.u 18) ∧ h.rd b (A.length * 18) 18 = some r.cells := by
  rcases o.2 with ⟨_, e⟩ | ⟨b, rfl, _, _, _, hg⟩
  · simp at e
  · refine ⟨b, rfl, ?_⟩
    have hr := rows_part (A ++ r :: C) A.length (r := r) (by simp)
    rw [rd_of hg (by rw [rows_length]; simp; omega), hr]

theorem OutR.mid {lo : Nat} {h : H} {v : V} {A C : List Row} {f : Fr} {vv sv : V} (o : OutR lo h v (A ++ (f, vv, sv) :: C)) : SlO lo h.next h vv f.vars ∧ SlO lo h.next h sv f.stack :=
  o.1.row (f, vv, sv) (by simp)

def valsBody : ACode := match fn35.body with
  | .seq _ (.block _ (.loop b)) => b
  | _ => .skip
def varB : ACode := match valsBody with
  | .seq _ (.seq _ (.seq (.block _ (.seq _ (.seq _ (.seq _ (.seq (.seq _ (.block _ (.loop b))) _))))) _)) => b
  | _ => .skip
def stkB : ACode := match valsBody with
  | .seq _ (.seq _ (.seq (.block _ (.seq _ (.seq _ (.seq _ (.seq _ (.seq _ (.block _ (.loop b)))))))) _)) => b
  | _ => .skip

/-- a list of which the first ones are turned -/
def part {α : Type} (T : α → α) (j : Nat) (l : List α) : List α := (l.take j).map T ++ l.drop j
theorem part_length {α : Type} (T : α → α) (j : Nat) (l : List α) : (part T j l).length = l.length := by
  unfold part; rw [List.length_append, List.length_map, List.length_take, List.length_drop]; omega
theorem part_zero {α : Type} (T : α → α) (l : List α) : part T 0 l = l := by unfold part; simp
theorem part_all {α : Type} (T : α → α) (l : List α) {j : Nat} (h : l.length ≤ j) : part T j l = l.map T := by
  unfold part; rw [List.take_of_length_le h, List.drop_of_length_le h, List.append_nil]
theorem part_get {α : Type} (T : α → α) (l : List α) {j : Nat} {s : α} (h : l[j]? = some s) : (part T j l)[j]? = some s := by
  have hj : j < l.length := (List.getElem?_eq_some_iff.1 h).1
  unfold part
  rw [List.getElem?_append_right (by rw [List.length_map, List.length_take]; omega), List.length_map, List.length_take, Nat.min_eq_left (by omega), Nat.sub_self, List.getElem?_drop, Nat.add_zero, h]
theorem part_set {α : Type} (T : α → α) (l : List α) {j : Nat} {s : α} (h : l[j]? = some s) : (part T j l).set j (T s) = part T (j + 1) l := by
  have hj : j < l.length := (List.getElem?_eq_some_iff.1 h).1
  have e1 : l.drop j = s :: l.drop (j + 1) := by
    rw [List.drop_eq_getElem_cons hj, (List.getElem?_eq_some_iff.1 h).2]
  have e2 : (l.take (j + 1)).map T = (l.take j).map T ++ [T s] := by
    rw [List.take_add_one, h, List.map_append]; rfl
  unfold part
  rw [e1, e2, List.set_append_right _ _ (by rw [List.length_map, List.length_take]; omega), List.length_map, List.length_take, Nat.min_eq_left (by omega), Nat.sub_self, List.set_cons_zero, List.append_assoc]
  rfl

theorem SlO.here {lo hi : Nat} {h : H} {v : V} {l : List SV} (r : SlO lo hi h v l) {j : Nat} {s : SV} (hs : l[j]? = some s) : ∃ b c, v = .sl b 0 l.length c := by
  rcases r with ⟨_, e⟩ | ⟨b, c, e, _⟩
  · rw [e] at hs; simp at hs
  · exact ⟨b, c, e⟩

theorem varLoop (hE : ExtMono E) {T : SV → SV} {lo : Nat} {v : V} {box : Nat} {y : V} {k0 : Nat} {I : List Row → List SV → H → Prop} (M : Iter T lo v box y k0 E I) {A C : List Row} {vv sv : V} {B : Nat} (hB : v = .sl B 0 (A.length + (C.length + 1)) (.u 18)) {f0 : Fr} {seen0 : List SV} {a6 a7 : V} {cx : Cx} {Q : X → St → Prop} (hbn : f0.vars.length ≤ 1048576)
    (hQ : ∀ h, I (A ++ ({ f0 with vars := f0.vars.map T }, vv, sv) :: C) (seen0 ++ f0.vars) h → ∀ a4 a5 a9 a10 a11 tl, Q (.exit 2) ⟨[y, .ptr box 0, .int .i64 A.length, .ptr B (A.length * 18), a4, a5, a6, a7, .int .i64 f0.vars.length, a9, a10, a11], tl, [], h⟩) (k : Nat) :
    ∀ (n j : Nat) (h : H) (a4 a5 a10 a11 : V) (tl : List (Nat × V)), j + n = f0.vars.length → I (A ++ ({ f0 with vars := part T j f0.vars }, vv, sv) :: C) (seen0 ++ f0.vars.take j) h →
      (sems E (k + k0 + n + 30)).code cx (.loop varB) ⟨[y, .ptr box 0, .int .i64 A.length, .ptr B (A.length * 18), a4, a5, a6, a7, .int .i64 f0.vars.length, .int .i64 j, a10, a11], tl, [], h⟩ Q := by
  intro n
  induction n with
  | zero =>
    intro j h a4 a5 a10 a11 tl hj hI
    rw [show k + k0 + 0 + 30 = (k + k0 + 29) + 1 from by omega]
    refine loop_code ?_
    have hlt : decide ((j : Int) < (f0.vars.length : Int)) = false := by simp only [decide_eq_false_iff_not]; omega
    simp only [varB, valsBody, fn35, ↓q_region, ↓q_exit, ↓q_cond, ↓q_nil, q_putT, q_evl, q_evt, q_mapsome, evOp, List.getD_cons_zero, List.getD_cons_succ, if_true, if_false, Bool.false_eq_true, eq_self, b_lss, ↓z_seq, ↓z_snrm, ↓z_sexit, ↓z_some, ↓z_bin, hlt]
    rw [part_all T f0.vars (by omega), List.take_of_length_le (by omega)] at hI
    exact hQ h hI _ _ _ _ _ _
  | succ n ih =>
    intro j h a4 a5 a10 a11 tl hj hI
    rw [show k + k0 + (n + 1) + 30 = (k + k0 + n + 30) + 1 from by omega]
    refine loop_code ?_
    have hlt : decide ((j : Int) < (f0.vars.length : Int)) = true := by simp only [decide_eq_true_eq]; omega
    obtain ⟨s, hs⟩ : ∃ s, f0.vars[j]? = some s := ⟨f0.vars[j], List.getElem?_eq_getElem (by omega)⟩
    have hps := part_get T f0.vars hs
    obtain ⟨o, hbx⟩ := M.own _ _ _ hI
    obtain ⟨B', e1, hrow⟩ := o.at
    obtain ⟨b, c, hvv⟩ := o.mid.1.here hps
    have hBB : B' = B := by rw [hB] at e1; injection e1 with e; exact e.symm
    subst hBB
    have r14 := rd_part hrow 14 1 (by omega)
    rw [show ((Row.cells ({ f0 with vars := part T j f0.vars }, vv, sv)).drop 14).take 1 = [vv] from rfl, hvv] at r14
    have hc : ((0 : Int) ≤ (j : Int) ∧ (j : Int) < ((part T j f0.vars).length : Int)) = True := by simp only [eq_iff_iff, iff_true, part_length]; omega
    have hwr : IntKind.wrap .i64 ((j : Int) + 1) = ((j + 1 : Nat) : Int) := by
      rw [wrap_small (by omega) (by omega)]; omega
    generalize hK : (fun (x' : X) (st' : St) => (match x' with | .nrm => (sems E (k + k0 + n + 30)).code cx (.loop varB) st' Q | x => Q x st' : Prop)) = K
    simp only [varB, valsBody, fn35, ↓q_region, ↓q_skip, ↓q_cond, ↓q_nil, q_putL, q_putT, q_evl, q_evt, q_mapsome, evOp, List.getD_cons_zero, List.getD_cons_succ, List.set_cons_zero, List.set_cons_succ, if_true, if_false, Nat.reduceEqDiff, List.map_cons, List.map_nil, Bool.false_eq_true, Nat.zero_add, eq_self, b_lss, Int.toNat_natCast, ↓z_seq, ↓z_block, ↓z_snrm, ↓z_span, ↓z_bpan, ↓z_some, ↓z_call, ↓z_mv, ↓z_load, ↓z_nilck, ↓z_bin, ↓z_un, ↓z_faddr, ↓z_iaddr, hlt, r14, hc, nilckOK]
    refine callV_le hE (sems_le hE _ _ (Nat.le_refl _)) _ _ _ _ _ ?_ (M.round A C _ _ vv sv _ h b (j * 6) s hI (Spot.vars hvv hps) (k + k0 + n + 23) (by omega))
    intro r h' hr
    obtain ⟨e, hI'⟩ := hr
    subst e
    simp only [↓q_region, ↓q_skip, ↓q_cond, ↓q_nil, q_putL, q_putT, q_evl, q_evt, q_evc, q_mapsome, evOp, List.getD_cons_zero, List.getD_cons_succ, List.set_cons_zero, List.set_cons_succ, if_true, if_false, Nat.reduceEqDiff, Bool.false_eq_true, Bool.not_true, eq_self, b_add, u_not, ↓z_snrm, ↓z_bnrm, ↓z_some, ↓z_mv, ↓z_bin, hwr]
    rw [← hK]
    refine ih (j + 1) h' _ _ _ _ _ (by omega) ?_
    simp only [part_set T f0.vars hs, List.append_assoc] at hI'
    rw [List.take_add_one, hs]
    exact hI'

theorem stkLoop (hE : ExtMono E) {T : SV → SV} {lo : Nat} {v : V} {box : Nat} {y : V} {k0 : Nat} {I : List Row → List SV → H → Prop} (M : Iter T lo v box y k0 E I) {A C : List Row} {vv sv : V} {B : Nat} (hB : v = .sl B 0 (A.length + (C.length + 1)) (.u 18)) {f0 : Fr} {seen0 : List SV} {a6 a7 : V} {cx : Cx} {Q : X → St → Prop} (hbn : f0.stack.length ≤ 1048576)
    (hQ : ∀ h, I (A ++ ({ f0 with stack := f0.stack.map T }, vv, sv) :: C) (seen0 ++ f0.stack) h → ∀ a4 a5 a8 a9 a11 tl, Q (.exit 4) ⟨[y, .ptr box 0, .int .i64 A.length, .ptr B (A.length * 18), a4, a5, a6, a7, a8, a9, .int .i64 f0.stack.length, a11], tl, [], h⟩) (k : Nat) :
    ∀ (n j : Nat) (h : H) (a4 a5 a8 a9 : V) (tl : List (Nat × V)), j + n = f0.stack.length → I (A ++ ({ f0 with stack := part T j f0.stack }, vv, sv) :: C) (seen0 ++ f0.stack.take j) h →
      (sems E (k + k0 + n + 30)).code cx (.loop stkB) ⟨[y, .ptr box 0, .int .i64 A.length, .ptr B (A.length * 18), a4, a5, a6, a7, a8, a9, .int .i64 f0.stack.length, .int .i64 j], tl, [], h⟩ Q := by
  intro n
  induction n with
  | zero =>
    intro j h a4 a5 a8 a9 tl hj hI
    rw [show k + k0 + 0 + 30 = (k + k0 + 29) + 1 from by omega]
    refine loop_code ?_
    have hlt : decide ((j : Int) < (f0.stack.length : Int)) = false := by simp only [decide_eq_false_iff_not]; omega
    simp only [stkB, valsBody, fn35, ↓q_region, ↓q_exit, ↓q_cond, ↓q_nil, q_putT, q_evl, q_evt, q_mapsome, evOp, List.getD_cons_zero, List.getD_cons_succ, if_true, if_false, Bool.false_eq_true, eq_self, b_lss, ↓z_seq, ↓z_snrm, ↓z_sexit, ↓z_some, ↓z_bin, hlt]
    rw [part_all T f0.stack (by omega), List.take_of_length_le (by omega)] at hI
    exact hQ h hI _ _ _ _ _ _
  | succ n ih =>
    intro j h a4 a5 a8 a9 tl hj hI
    rw [show k + k0 + (n + 1) + 30 = (k + k0 + n + 30) + 1 from by omega]
    refine loop_code ?_
    have hlt : decide ((j : Int) < (f0.stack.length : Int)) = true := by simp only [decide_eq_true_eq]; omega
    obtain ⟨s, hs⟩ : ∃ s, f0.stack[j]? = some s := ⟨f0.stack[j], List.getElem?_eq_getElem (by omega)⟩
    have hps := part_get T f0.stack hs
    obtain ⟨o, hbx⟩ := M.own _ _ _ hI
    obtain ⟨B', e1, hrow⟩ := o.at
    obtain ⟨b, c, hvv⟩ := o.mid.2.here hps
    have hBB : B' = B := by rw [hB] at e1; injection e1 with e; exact e.symm
    subst hBB
    have r14 := rd_part hrow 15 1 (by omega)
    rw [show ((Row.cells ({ f0 with stack := part T j f0.stack }, vv, sv)).drop 15).take 1 = [sv] from rfl, hvv] at r14
    have hc : ((0 : Int) ≤ (j : Int) ∧ (j : Int) < ((part T j f0.stack).length : Int)) = True := by simp only [eq_iff_iff, iff_true, part_length]; omega
    have hwr : IntKind.wrap .i64 ((j : Int) + 1) = ((j + 1 : Nat) : Int) := by
      rw [wrap_small (by omega) (by omega)]; omega
    generalize hK : (fun (x' : X) (st' : St) => (match x' with | .nrm => (sems E (k + k0 + n + 30)).code cx (.loop stkB) st' Q | x => Q x st' : Prop)) = K
    simp only [stkB, valsBody, fn35, ↓q_region, ↓q_skip, ↓q_cond, ↓q_nil, q_putL, q_putT, q_evl, q_evt, q_mapsome, evOp, List.getD_cons_zero, List.getD_cons_succ, List.set_cons_zero, List.set_cons_succ, if_true, if_false, Nat.reduceEqDiff, List.map_cons, List.map_nil, Bool.false_eq_true, Nat.zero_add, eq_self, b_lss, Int.toNat_natCast, ↓z_seq, ↓z_block, ↓z_snrm, ↓z_span, ↓z_bpan, ↓z_some, ↓z_call, ↓z_mv, ↓z_load, ↓z_nilck, ↓z_bin, ↓z_un, ↓z_faddr, ↓z_iaddr, hlt, r14, hc, nilckOK]
    refine callV_le hE (sems_le hE _ _ (Nat.le_refl _)) _ _ _ _ _ ?_ (M.round A C _ _ vv sv _ h b (j * 6) s hI (Spot.stack hvv hps) (k + k0 + n + 23) (by omega))
    intro r h' hr
    obtain ⟨e, hI'⟩ := hr
    subst e
    simp only [↓q_region, ↓q_skip, ↓q_cond, ↓q_nil, q_putL, q_putT, q_evl, q_evt, q_evc, q_mapsome, evOp, List.getD_cons_zero, List.getD_cons_succ, List.set_cons_zero, List.set_cons_succ, if_true, if_false, Nat.reduceEqDiff, Bool.false_eq_true, Bool.not_true, eq_self, b_add, u_not, ↓z_snrm, ↓z_bnrm, ↓z_some, ↓z_mv, ↓z_bin, hwr]
    rw [← hK]
    refine ih (j + 1) h' _ _ _ _ _ (by omega) ?_
    simp only [part_set T f0.stack hs, List.append_assoc] at hI'
    rw [List.take_add_one, hs]
    exact hI'

theorem valsBody_is : valsBody = (.seq (.region [⟨.t 10, .bin (.lss) (.l 7) (.l 6), none, 0⟩])
 (.seq (.cond (.t 10) .skip
 (.exit 0))
 (.seq (.block 1 (.seq (.region [⟨.t 11, .mv (.l 7), none, 0⟩,
 ⟨.l 2, .mv (.t 11), none, 0⟩])
 (.seq (.region [⟨.t 12, .load false 1 (.l 1), none, 0⟩,
 ⟨.t 13, .mv (.l 2), none, 0⟩,
 ⟨.t 14, .iaddr 18 (.t 12) (.t 13), none, 0⟩,
 ⟨.l 3, .mv (.t 14), none, 0⟩])
 (.seq (.seq (.region [⟨.t 15, .mv (.l 0), none, 0⟩,
 ⟨.t 16, .mv (.l 2), none, 0⟩,
 ⟨.t 17, .mv (.l 3), none, 0⟩,
 ⟨.t 18, .nilck (.t 17), none, 0⟩,
 ⟨.t 19, .faddr 2 (.t 18), none, 0⟩,
 ⟨.t 20, .call (.t 15) [.t 16, .t 19], none, 0⟩,
 ⟨.t 21, .un (.not) (.t 20), none, 0⟩,
 ⟨.t 22, .mv (.t 21), none, 0⟩,
 ⟨.t 23, .mv (.l 0), (some (.t 22, false)), 0⟩,
 ⟨.t 24, .mv (.l 2), (some (.t 22, false)), 0⟩,
 ⟨.t 25, .mv (.l 3), (some (.t 22, false)), 0⟩,
 ⟨.t 26, .nilck (.t 25), (some (.t 22, false)), 0⟩,
 ⟨.t 27, .faddr 8 (.t 26), (some (.t 22, false)), 0⟩,
 ⟨.t 28, .call (.t 23) [.t 24, .t 27], (some (.t 22, false)), 0⟩,
 ⟨.t 29, .un (.not) (.t 28), (some (.t 22, false)), 0⟩,
 ⟨.t 30, .pick (.t 22) (.c (.bool true)) (.t 29), none, 0⟩])
 (.cond (.t 30) .ret
 .skip))
 (.seq (.seq (.region [⟨.t 31, .mv (.l 3), none, 0⟩,
 ⟨.t 32, .nilck (.t 31), none, 0⟩,
 ⟨.t 33, .faddr 14 (.t 32), none, 0⟩,
 ⟨.t 34, .load false 1 (.t 33), none, 0⟩,
 ⟨.l 8, .len (.sl) (.t 34), none, 0⟩,
 ⟨.l 9, .mv (.c (.int (.i64) 0)), none, 0⟩])
 (.block 2 (.loop varB)))
 (.seq (.region [⟨.t 50, .mv (.l 3), none, 0⟩,
 ⟨.t 51, .nilck (.t 50), none, 0⟩,
 ⟨.t 52, .faddr 15 (.t 51), none, 0⟩,
 ⟨.t 53, .load false 1 (.t 52), none, 0⟩,
 ⟨.l 10, .len (.sl) (.t 53), none, 0⟩,
 ⟨.l 11, .mv (.c (.int (.i64) 0)), none, 0⟩])
 (.block 4 (.loop stkB))))))))
 (.region [⟨.t 69, .bin (.add) (.l 7) (.c (.int (.i64) 1)), none, 0⟩,
 ⟨.l 7, .mv (.t 69), none, 0⟩])))) := rfl

def rowT (T : SV → SV) (r : Row) : Row := ({ r.1 with self := T r.1.self, hold := T r.1.hold, vars := r.1.vars.map T, stack := r.1.stack.map T }, r.2.1, r.2.2)
def valsOf (r : Row) : List SV := r.1.self :: r.1.hold :: (r.1.vars ++ r.1.stack)

theorem valsLoop (hE : ExtMono E) {T : SV → SV} {lo : Nat} {v : V} {box : Nat} {y : V} {k0 : Nat} {I : List Row → List SV → H → Prop} (M : Iter T lo v box y k0 E I) {G0 : List Row} {seen0 : List SV} (hf : fits20 G0) {m : Nat} (hm : ∀ r ∈ G0, r.1.vars.length ≤ m ∧ r.1.stack.length ≤ m) {cx : Cx} {Q : X → St → Prop}
    (hQ : ∀ h, I (G0.map (rowT T)) (seen0 ++ G0.flatMap valsOf) h → ∀ loc tl, Q (.exit 0) ⟨loc, tl, [], h⟩) (k : Nat) :
    ∀ (n i : Nat) (h : H) (a2 a3 a4 a5 a8 a9 a10 a11 : V) (tl : List (Nat × V)), i + n = G0.length → I (part (rowT T) i G0) (seen0 ++ (G0.take i).flatMap valsOf) h →
      (sems E (k + k0 + m + n + 80)).code cx (.loop valsBody) ⟨[y, .ptr box 0, a2, a3, a4, a5, .int .i64 G0.length, .int .i64 i, a8, a9, a10, a11], tl, [], h⟩ Q := by
  intro n
  induction n with
  | zero =>
    intro i h a2 a3 a4 a5 a8 a9 a10 a11 tl hi hI
    rw [show k + k0 + m + 0 + 80 = (k + k0 + m + 79) + 1 from by omega]
    refine loop_code ?_
    have hlt : decide ((i : Int) < (G0.length : Int)) = false := by simp only [decide_eq_false_iff_not]; omega
    rw [valsBody_is]
    simp only [↓q_region, ↓q_exit, ↓q_cond, ↓q_nil, q_putT, q_evl, q_evt, q_mapsome, evOp, List.getD_cons_zero, List.getD_cons_succ, if_true, if_false, Bool.false_eq_true, eq_self, b_lss, ↓z_seq, ↓z_snrm, ↓z_sexit, ↓z_some, ↓z_bin, hlt]
    rw [part_all (rowT T) G0 (by omega), List.take_of_length_le (by omega)] at hI
    exact hQ h hI _ _
  | succ n ih =>
    intro i h a2 a3 a4 a5 a8 a9 a10 a11 tl hi hI
    rw [show k + k0 + m + (n + 1) + 80 = (k + k0 + m + n + 80) + 1 from by omega]
    refine loop_code ?_
    have hlt : decide ((i : Int) < (G0.length : Int)) = true := by simp only [decide_eq_true_eq]; omega
    obtain ⟨⟨f, vv, sv⟩, hr⟩ : ∃ s, G0[i]? = some s := ⟨G0[i], List.getElem?_eq_getElem (by omega)⟩
    have hrm := hm _ (List.mem_of_getElem? hr)
    have hrf := hf.2 _ (List.mem_of_getElem? hr)
    have hil : i < G0.length := by omega
    have hi1 : i ≤ 1048576 := by have := hf.1; omega
    have hG : G0.drop i = (f, vv, sv) :: G0.drop (i + 1) := by
      rw [List.drop_eq_getElem_cons hil, (List.getElem?_eq_some_iff.1 hr).2]
    obtain ⟨A, hA⟩ : ∃ A, A = (G0.take i).map (rowT T) := ⟨_, rfl⟩
    obtain ⟨C, hC⟩ : ∃ C, C = G0.drop (i + 1) := ⟨_, rfl⟩
    have hAl : A.length = i := by rw [hA, List.length_map, List.length_take]; omega
    have hAC : A.length + (C.length + 1) = G0.length := by rw [hAl, hC, List.length_drop]; omega
    have hp : part (rowT T) i G0 = A ++ (f, vv, sv) :: C := by unfold part; rw [← hA, hG, ← hC]
    have hnext : ∀ f', rowT T (f, vv, sv) = (f', vv, sv) → part (rowT T) (i + 1) G0 = A ++ (f', vv, sv) :: C := by
      intro f' e
      rw [← part_set (rowT T) G0 hr, hp, e, ← hAl]
      simp
    have htake : (G0.take (i + 1)).flatMap valsOf = (G0.take i).flatMap valsOf ++ (f.self :: f.hold :: (f.vars ++ f.stack)) := by
      rw [List.take_add_one, hr, List.flatMap_append]; simp [valsOf]
    rw [hp] at hI
    have hwr : IntKind.wrap .i64 ((i : Int) + 1) = ((i + 1 : Nat) : Int) := by
      rw [wrap_small (by omega) (by omega)]; omega
    obtain ⟨o, hbx⟩ := M.own _ _ _ hI
    obtain ⟨B, hB, hrow⟩ := o.at
    have hlenA : (A ++ (f, vv, sv) :: C).length = G0.length := by rw [List.length_append, List.length_cons]; exact hAC
    have hbx' : h.rd box 0 1 = some [.sl B 0 G0.length (.u 18)] := by rw [hbx, hB, hlenA]
    have hc : ((0 : Int) ≤ (i : Int) ∧ (i : Int) < (G0.length : Int)) = True := by simp only [eq_iff_iff, iff_true]; omega
    generalize hK : (fun (x' : X) (st' : St) => (match x' with | .nrm => (sems E (k + k0 + m + n + 80)).code cx (.loop valsBody) st' Q | x => Q x st' : Prop)) = K
    rw [valsBody_is]
    simp only [↓q_region, ↓q_skip, ↓q_cond, ↓q_nil, q_putL, q_putT, q_evl, q_evt, q_mapsome, evOp, List.getD_cons_zero, List.getD_cons_succ, List.set_cons_zero, List.set_cons_succ, if_true, if_false, Nat.reduceEqDiff, List.map_cons, List.map_nil, Bool.false_eq_true, Nat.zero_add, eq_self, b_lss, Int.toNat_natCast, ↓z_seq, ↓z_block, ↓z_snrm, ↓z_span, ↓z_bpan, ↓z_some, ↓z_call, ↓z_mv, ↓z_load, ↓z_nilck, ↓z_bin, ↓z_un, ↓z_faddr, ↓z_iaddr, hlt, hbx', hc, nilckOK]
    subst hAl
    have hv1 : f.vars.length ≤ m := hrm.1
    have hv2 : f.stack.length ≤ m := hrm.2
    have hB' : v = .sl B 0 (A.length + (C.length + 1)) (.u 18) := by rw [hB, List.length_append, List.length_cons]
    have same : ∀ (g : Fr) seen h', I (A ++ (g, vv, sv) :: C) seen h' → h'.rd B (A.length * 18) 18 = some (Row.cells (g, vv, sv)) ∧ SlR h' vv g.vars ∧ SlR h' sv g.stack := by
      intro g seen h' hI'
      obtain ⟨o', _⟩ := M.own _ _ _ hI'
      obtain ⟨B', e1, hrow'⟩ := o'.at
      have hBB : B' = B := by rw [hB] at e1; injection e1 with e; exact e.symm
      subst hBB
      exact ⟨hrow', o'.mid.1.slR, o'.mid.2.slR⟩
    refine callV_le hE (sems_le hE _ _ (Nat.le_refl _)) _ _ _ _ _ ?_ (M.round A C f _ vv sv _ h B (A.length * 18 + 2) f.self hI (Spot.self hB') _ (by omega))
    intro r h1 hr1
    obtain ⟨e, hI1⟩ := hr1
    subst e
    simp only [q_wanted, q_putT, q_evl, q_evt, q_mapsome, evOp, List.getD_cons_zero, List.getD_cons_succ, if_true, if_false, Nat.reduceEqDiff, List.map_cons, List.map_nil, Bool.not_true, eq_self, u_not, ↓z_span, ↓z_bpan, ↓z_some, ↓z_gtrue, ↓z_gcall, ↓z_mv, ↓zg_mv, ↓zg_nilck, ↓zg_un, ↓zg_faddr, b_ff, nilckOK]
    refine callV_le hE (sems_le hE _ _ (Nat.le_refl _)) _ _ _ _ _ ?_ (M.round A C { f with self := T f.self } _ vv sv _ h1 B (A.length * 18 + 8) f.hold hI1 (Spot.hold hB') _ (by omega))
    intro r h2 hr2
    obtain ⟨e, hI2⟩ := hr2
    subst e
    obtain ⟨row2, sv2, _⟩ := same _ _ _ hI2
    have r14 := rd_part row2 14 1 (by omega)
    rw [show ((Row.cells ({ f with self := T f.self, hold := T f.hold }, vv, sv)).drop 14).take 1 = [vv] from rfl] at r14
    simp only [↓q_region, ↓q_skip, ↓q_cond, ↓q_nil, q_putL, q_putT, q_evl, q_evt, q_evc, q_mapsome, evOp, List.getD_cons_zero, List.getD_cons_succ, List.set_cons_zero, List.set_cons_succ, if_true, if_false, Nat.reduceEqDiff, Bool.false_eq_true, Bool.not_true, eq_self, u_not, ↓z_seq, ↓z_block, ↓z_snrm, ↓z_some, ↓z_mv, ↓z_pick, ↓z_load, ↓z_nilck, ↓z_faddr, ↓z_len, nilckOK, r14, sv2.len.1, sv2.len.2]
    refine (sems_le hE (0 + k0 + f.vars.length + 30) _ (by omega)).code _ _ _ _ _ (fun _ _ x => x) (varLoop hE M hB' (f0 := { f with self := T f.self, hold := T f.hold }) (seen0 := seen0 ++ (G0.take A.length).flatMap valsOf ++ [f.self] ++ [f.hold]) hrf.1 ?_ 0 f.vars.length 0 h2 _ _ _ _ _ (show 0 + f.vars.length = f.vars.length from by omega) (by rw [part_zero, List.take_zero, List.append_nil]; exact hI2))
    intro h3 hI3 a4' a5' a9' a10' a11' tl3
    obtain ⟨row3, _, sv3⟩ := same _ _ _ hI3
    have r15 := rd_part row3 15 1 (by omega)
    rw [show ((Row.cells ({ f with self := T f.self, hold := T f.hold, vars := f.vars.map T }, vv, sv)).drop 15).take 1 = [sv] from rfl] at r15
    simp only [↓q_region, ↓q_nil, q_putL, q_putT, q_evl, q_evt, q_evc, q_mapsome, evOp, List.getD_cons_zero, List.getD_cons_succ, List.set_cons_zero, List.set_cons_succ, if_true, if_false, Nat.reduceEqDiff, Bool.false_eq_true, eq_self, b_add, ↓z_seq, ↓z_block, ↓z_snrm, ↓z_sexit, ↓z_bexit, ↓z_some, ↓z_mv, ↓z_load, ↓z_nilck, ↓z_bin, ↓z_faddr, ↓z_len, nilckOK, r15, sv3.len.1, sv3.len.2]
    refine (sems_le hE (0 + k0 + f.stack.length + 30) _ (by omega)).code _ _ _ _ _ (fun _ _ x => x) (stkLoop hE M hB' (f0 := { f with self := T f.self, hold := T f.hold, vars := f.vars.map T }) (seen0 := seen0 ++ (G0.take A.length).flatMap valsOf ++ [f.self] ++ [f.hold] ++ f.vars) hrf.2 ?_ 0 f.stack.length 0 h3 _ _ _ _ _ (show 0 + f.stack.length = f.stack.length from by omega) (by rw [part_zero, List.take_zero, List.append_nil]; exact hI3))
    intro h4 hI4 b4 b5 b8 b9 b11 tl4
    simp only [↓q_region, ↓q_nil, q_putL, q_putT, q_evl, q_evt, q_evc, q_mapsome, evOp, List.getD_cons_zero, List.getD_cons_succ, List.set_cons_zero, List.set_cons_succ, if_true, if_false, Nat.reduceEqDiff, eq_self, b_add, ↓z_snrm, ↓z_sexit, ↓z_bnrm, ↓z_bexit, ↓z_some, ↓z_mv, ↓z_bin, hwr]
    rw [← hK]
    refine ih (A.length + 1) h4 _ _ _ _ _ _ _ _ _ (by omega) ?_
    rw [hnext _ rfl, htake]
    simp only [List.append_assoc, List.cons_append, List.nil_append] at hI4 ⊢
    exact hI4

theorem values35 {E : Env} (hE : Env0 E) {T : SV → SV} {lo : Nat} {v : V} {box : Nat} {y : V} {k0 : Nat} {I : List Row → List SV → H → Prop} (M : Iter T lo v box y k0 E I) {G0 : List Row} (hf : fits20 G0) {m : Nat} (hm : ∀ r ∈ G0, r.1.vars.length ≤ m ∧ r.1.stack.length ≤ m) {h : H} (hI : I G0 [] h) {R : Ret → H → Prop}
    (hR : ∀ h', I (G0.map (rowT T)) (G0.flatMap valsOf) h' → R (.ret (.tup [])) h') (k : Nat) : callF E (sems E (k + k0 + m + G0.length + 90)) 35 [y, .ptr box 0] h R := by
  rw [show k + k0 + m + G0.length + 90 = (k + k0 + m + G0.length + 89) + 1 from by omega]
  refine call_in hE.mono (hE.none 35 (by decide)) (by rw [hE.ft]; rfl) rfl rfl ?_
  show (sems E (k + k0 + m + G0.length + 89)).code _ fn35.body ⟨[y, .ptr box 0, .tup [], .tup [], .tup [], .tup [], .tup [], .tup [], .tup [], .tup [], .tup [], .tup []], [], [], h⟩ (EndQ [] R)
  obtain ⟨o, hbx⟩ := M.own _ _ _ hI
  have hl := o.fsR.len
  have hb : fn35.body = .seq (.region [⟨.t 7, .load false 1 (.l 1), none, 0⟩, ⟨.l 6, .len .sl (.t 7), none, 0⟩, ⟨.l 7, .mv (.c (.int .i64 0)), none, 0⟩]) (.block 0 (.loop valsBody)) := rfl
  rw [hb]
  simp only [↓q_region, ↓q_nil, q_putL, q_putT, q_evl, q_evt, q_evc, q_mapsome, evOp, List.getD_cons_zero, List.getD_cons_succ, List.set_cons_zero, List.set_cons_succ, if_true, if_false, Bool.false_eq_true, eq_self, ↓z_seq, ↓z_block, ↓z_snrm, ↓z_some, ↓z_mv, ↓z_load, ↓z_len, hbx, hl.1, hl.2]
  refine (sems_le hE.mono (0 + k0 + m + G0.length + 80) _ (by omega)).code _ _ _ _ _ (fun _ _ x => x) (valsLoop hE.mono M hf hm (seen0 := []) ?_ 0 G0.length 0 h _ _ _ _ _ _ _ _ _ (by omega) (by rw [part_zero]; exact hI))
  intro h' hI' loc tl
  simp only [if_true, eq_self, ↓z_bexit]
  exact ⟨rfl, .tup [], rfl, hR h' hI'⟩
end Go.Abs.Sy

namespace Go.Abs.Sy
open Go.Abs

theorem splice {α : Type} (X Y Z w : List α) (p q : Nat) (h : p + q ≤ Y.length) (hw : w.length = q) :
    (X ++ (Y ++ Z)).take (X.length + p) ++ (w ++ (X ++ (Y ++ Z)).drop (X.length + p + w.length)) = X ++ ((Y.take p ++ (w ++ Y.drop (p + q))) ++ Z) := by
  rw [List.take_append, List.take_of_length_le (by omega), Nat.add_sub_cancel_left, List.take_append_of_le_length (by omega), hw, Nat.add_assoc, List.drop_append, List.drop_of_length_le (by omega), List.nil_append, Nat.add_sub_cancel_left,
    List.drop_append_of_le_length (by omega)]
  simp only [List.append_assoc]

theorem svs_split {l : List SV} {j : Nat} {s : SV} (hs : l[j]? = some s) : svs l = svs (l.take j) ++ (s.cells ++ svs (l.drop (j + 1))) := by
  have hj : j < l.length := (List.getElem?_eq_some_iff.1 hs).1
  have e : l = l.take j ++ s :: l.drop (j + 1) := by
    rw [← (List.getElem?_eq_some_iff.1 hs).2, ← List.drop_eq_getElem_cons hj, List.take_append_drop]
  conv => lhs; rw [e, svs_append]
  rfl
theorem svs_set {l : List SV} {j : Nat} {s : SV} (hs : l[j]? = some s) (t : SV) : svs (l.set j t) = svs (l.take j) ++ (t.cells ++ svs (l.drop (j + 1))) := by
  have hj : j < l.length := (List.getElem?_eq_some_iff.1 hs).1
  have h2 : (l.set j t)[j]? = some t := List.getElem?_set_self hj
  rw [svs_split h2, List.take_set, List.drop_set]
  rw [if_pos (by omega), List.set_eq_of_length_le (by rw [List.length_take]; omega)]

theorem svs_wr {h : H} {b j : Nat} {l : List SV} {s : SV} (hg : h.get b = some (.cells (svs l))) (hs : l[j]? = some s) (t : SV) : h.wr b (j * 6) t.cells = some (h.set b (.cells (svs (l.set j t)))) := by
  have hj : j < l.length := (List.getElem?_eq_some_iff.1 hs).1
  have hl : (svs (l.take j)).length = j * 6 := by rw [svs_length, List.length_take, Nat.min_eq_left (by omega)]
  rw [wr_of hg (by rw [svs_length]; show j * 6 + 6 ≤ _; omega), svs_set hs t, svs_split hs]
  congr 3
  have := splice (svs (l.take j)) s.cells (svs (l.drop (j + 1))) t.cells 0 6 (by show 0 + 6 ≤ 6; omega) rfl
  rw [hl, Nat.add_zero] at this
  rw [this]
  rfl

theorem rows_wr {h : H} {b p q : Nat} {A C : List Row} {r r' : Row} {w : List V} (hg : h.get b = some (.cells (rows (A ++ r :: C)))) (hp : p + q ≤ 18) (hw : w.length = q) (he : r.cells.take p ++ (w ++ r.cells.drop (p + q)) = r'.cells) :
    h.wr b (A.length * 18 + p) w = some (h.set b (.cells (rows (A ++ r' :: C)))) := by
  have e : ∀ x : Row, rows (A ++ x :: C) = rows A ++ (x.cells ++ rows C) := fun x => by rw [rows_append]; rfl
  have hl : (rows A).length = A.length * 18 := rows_length A
  rw [wr_of hg (by rw [rows_length, List.length_append, List.length_cons, hw]; omega), e r, e r']
  congr 3
  have := splice (rows A) r.cells (rows C) w p q (by rw [Row.len]; exact hp) hw
  rw [hl] at this
  rw [this, he]

/-- the block that is turned, and what it is then -/
theorem Spot.turn {T : SV → SV} {lo : Nat} {h : H} {v : V} {A C : List Row} {f f' : Fr} {vv sv : V} {b o : Nat} {s : SV} (own : OutR lo h v (A ++ (f, vv, sv) :: C)) (sp : Spot T v A.length f vv sv b o s f') :
    h.rd b o 6 = some s.cells ∧ lo ≤ b ∧ b < h.next ∧ (v = .sl b 0 (A ++ (f, vv, sv) :: C).length (.u 18) ∨ b ∈ blks (A ++ (f, vv, sv) :: C)) ∧
    ∃ ob, h.wr b o (T s).cells = some (h.set b ob) ∧ OutR lo (h.set b ob) v (A ++ (f', vv, sv) :: C) := by
  obtain ⟨B, hB, hrow⟩ := own.at
  have hmem : (f, vv, sv) ∈ A ++ (f, vv, sv) :: C := by simp
  have hlen : (A ++ (f, vv, sv) :: C).length = (A ++ (f', vv, sv) :: C).length := by simp
  have hbk : blks (A ++ (f, vv, sv) :: C) = blks (A ++ (f', vv, sv) :: C) := by
    rw [blks_append, blks_append]; rfl
  obtain ⟨B1, lB, gB1, nB, gB⟩ : B = B ∧ lo ≤ B ∧ B < h.next ∧ B ∉ blks (A ++ (f, vv, sv) :: C) ∧ h.get B = some (.cells (rows (A ++ (f, vv, sv) :: C))) := by
    rcases own.2 with ⟨_, e⟩ | ⟨B', e, h1, h2, h3, h4⟩
    · simp at e
    · rw [hB] at e
      injection e with e
      subst e
      exact ⟨rfl, h1, h2, h3, h4⟩
  -- a value in the row itself
  have inRow : ∀ (p : Nat) (w0 w : List V), p + 6 ≤ 18 → w.length = 6 → ((Row.cells (f, vv, sv)).drop p).take 6 = w0 → (Row.cells (f, vv, sv)).take p ++ (w ++ (Row.cells (f, vv, sv)).drop (p + 6)) = Row.cells (f', vv, sv) → f'.vars = f.vars → f'.stack = f.stack →
      h.rd B (A.length * 18 + p) 6 = some w0 ∧ ∃ ob, h.wr B (A.length * 18 + p) w = some (h.set B ob) ∧ OutR lo (h.set B ob) v (A ++ (f', vv, sv) :: C) := by
    intro p w0 w hp hw h0 he ev es
    refine ⟨by rw [rd_part hrow p 6 hp, h0], _, rows_wr gB hp hw he, ?_, .inr ⟨B, by rw [hB, hlen], lB, gB1, by rw [← hbk]; exact nB, by rw [H.get_set, if_pos rfl]⟩⟩
    have o2 := own.1.set nB (.cells (rows (A ++ (f', vv, sv) :: C)))
    refine ⟨fun r hr => ?_, by rw [← hbk]; exact o2.nd⟩
    rcases List.mem_append.1 hr with hr | hr
    · exact o2.row r (List.mem_append_left _ hr)
    · rcases List.mem_cons.1 hr with rfl | hr
      · have := o2.row (f, vv, sv) hmem
        exact ⟨by rw [show (f', vv, sv).1.vars = f.vars from ev]; exact this.1, by rw [show (f', vv, sv).1.stack = f.stack from es]; exact this.2⟩
      · exact o2.row r (List.mem_append_right _ (List.mem_cons_of_mem _ hr))
  cases sp with
  | self hv =>
    rw [hB] at hv; injection hv with e1 e2 e3 e4; subst e1
    obtain ⟨h1, h2⟩ := inRow 2 f.self.cells (T f.self).cells (by omega) rfl rfl rfl rfl rfl
    exact ⟨h1, lB, gB1, .inl hB, h2⟩
  | hold hv =>
    rw [hB] at hv; injection hv with e1 e2 e3 e4; subst e1
    obtain ⟨h1, h2⟩ := inRow 8 f.hold.cells (T f.hold).cells (by omega) rfl rfl rfl rfl rfl
    exact ⟨h1, lB, gB1, .inl hB, h2⟩
  | vars hv hs =>
    rename_i len j c
    have hsl : SlO lo h.next h vv f.vars := (own.1.row _ hmem).1
    rcases hsl with ⟨e, _⟩ | ⟨b', cap, e, h1, h2, hg⟩
    · rw [e] at hv; cases hv
    have hbb : b' = b := by
      have e : vv = _ := e
      rw [e] at hv; injection hv
    subst hbb
    have hg : h.get b' = some (.cells (svs f.vars)) := hg
    have hbv : b' ∈ blkOf vv := by rw [show vv = _ from e]; exact List.mem_singleton.2 rfl
    have hsplit : blks (A ++ (f, vv, sv) :: C) = blks A ++ ((blkOf vv ++ blkOf sv) ++ blks C) := by rw [blks_append]; rfl
    have nd := own.1.nd
    rw [hsplit, List.nodup_append, List.nodup_append, List.nodup_append] at nd
    obtain ⟨nA, ⟨⟨n1, n2, n12⟩, nC, n3⟩, n4⟩ := nd
    have hA : b' ∉ blks A := fun q => n4 b' q b' (List.mem_append_left _ (List.mem_append_left _ hbv)) rfl
    have hC : b' ∉ blks C := fun q => n3 b' (List.mem_append_left _ hbv) b' q rfl
    have hO : b' ∉ blkOf sv := fun q => n12 b' hbv b' q rfl
    have hBb : B ≠ b' := fun q => nB (by rw [hsplit, q]; exact List.mem_append_right _ (List.mem_append_left _ (List.mem_append_left _ hbv)))
    refine ⟨?_, h1, h2, .inr (by rw [hsplit]; exact List.mem_append_right _ (List.mem_append_left _ (List.mem_append_left _ hbv))), _, svs_wr hg hs (T s), ?_, .inr ⟨B, by rw [hB, hlen], lB, gB1, by rw [← hbk]; exact nB, ?_⟩⟩
    · have hjl : j < f.vars.length := (List.getElem?_eq_some_iff.1 hs).1
      rw [rd_of hg (by rw [svs_length]; omega), svs_part f.vars j hs]
    · have one : ∀ (u : V) (l : List SV), SlO lo h.next h u l → b' ∉ blkOf u → SlO lo h.next (h.set b' (.cells (svs (f.vars.set j (T s))))) u l := by
        intro u l r hn
        rcases r with r | ⟨c', cap', rfl, k1, k2, kg⟩
        · exact .inl r
        · refine .inr ⟨c', cap', rfl, k1, k2, ?_⟩
          rw [H.get_set, if_neg (fun e => hn (by rw [← e]; exact List.mem_singleton.2 rfl))]
          exact kg
      have inA : ∀ r ∈ A, b' ∉ blkOf r.2.1 ∧ b' ∉ blkOf r.2.2 := fun r hr => ⟨fun q => hA (List.mem_flatMap.2 ⟨r, hr, List.mem_append_left _ q⟩), fun q => hA (List.mem_flatMap.2 ⟨r, hr, List.mem_append_right _ q⟩)⟩
      have inC : ∀ r ∈ C, b' ∉ blkOf r.2.1 ∧ b' ∉ blkOf r.2.2 := fun r hr => ⟨fun q => hC (List.mem_flatMap.2 ⟨r, hr, List.mem_append_left _ q⟩), fun q => hC (List.mem_flatMap.2 ⟨r, hr, List.mem_append_right _ q⟩)⟩
      refine ⟨fun r hr => ?_, by rw [← hbk]; exact own.1.nd⟩
      rcases List.mem_append.1 hr with hr | hr
      · have := own.1.row r (List.mem_append_left _ hr)
        exact ⟨one _ _ this.1 (inA r hr).1, one _ _ this.2 (inA r hr).2⟩
      · rcases List.mem_cons.1 hr with rfl | hr
        · have hnew : SlO lo h.next (h.set b' (.cells (svs (f.vars.set j (T s))))) vv (f.vars.set j (T s)) := .inr ⟨b', cap, by rw [List.length_set]; exact e, h1, h2, by rw [H.get_set, if_pos rfl]⟩
          have hold := one _ _ (own.1.row _ hmem).2 hO
          exact ⟨hnew, hold⟩
        · have := own.1.row r (List.mem_append_right _ (List.mem_cons_of_mem _ hr))
          exact ⟨one _ _ this.1 (inC r hr).1, one _ _ this.2 (inC r hr).2⟩
    · rw [H.get_set, if_neg hBb, gB, rows_append, rows_append]
      rfl
  | stack hv hs =>
    rename_i len j c
    have hsl : SlO lo h.next h sv f.stack := (own.1.row _ hmem).2
    rcases hsl with ⟨e, _⟩ | ⟨b', cap, e, h1, h2, hg⟩
    · rw [e] at hv; cases hv
    have hbb : b' = b := by
      have e : sv = _ := e
      rw [e] at hv; injection hv
    subst hbb
    have hg : h.get b' = some (.cells (svs f.stack)) := hg
    have hbv : b' ∈ blkOf sv := by rw [show sv = _ from e]; exact List.mem_singleton.2 rfl
    have hsplit : blks (A ++ (f, vv, sv) :: C) = blks A ++ ((blkOf vv ++ blkOf sv) ++ blks C) := by rw [blks_append]; rfl
    have nd := own.1.nd
    rw [hsplit, List.nodup_append, List.nodup_append, List.nodup_append] at nd
    obtain ⟨nA, ⟨⟨n1, n2, n12⟩, nC, n3⟩, n4⟩ := nd
    have hA : b' ∉ blks A := fun q => n4 b' q b' (List.mem_append_left _ (List.mem_append_right _ hbv)) rfl
    have hC : b' ∉ blks C := fun q => n3 b' (List.mem_append_right _ hbv) b' q rfl
    have hO : b' ∉ blkOf vv := fun q => n12 b' q b' hbv rfl
    have hBb : B ≠ b' := fun q => nB (by rw [hsplit, q]; exact List.mem_append_right _ (List.mem_append_left _ (List.mem_append_right _ hbv)))
    refine ⟨?_, h1, h2, .inr (by rw [hsplit]; exact List.mem_append_right _ (List.mem_append_left _ (List.mem_append_right _ hbv))), _, svs_wr hg hs (T s), ?_, .inr ⟨B, by rw [hB, hlen], lB, gB1, by rw [← hbk]; exact nB, ?_⟩⟩
    · have hjl : j < f.stack.length := (List.getElem?_eq_some_iff.1 hs).1
      rw [rd_of hg (by rw [svs_length]; omega), svs_part f.stack j hs]
    · have one : ∀ (u : V) (l : List SV), SlO lo h.next h u l → b' ∉ blkOf u → SlO lo h.next (h.set b' (.cells (svs (f.stack.set j (T s))))) u l := by
        intro u l r hn
        rcases r with r | ⟨c', cap', rfl, k1, k2, kg⟩
        · exact .inl r
        · refine .inr ⟨c', cap', rfl, k1, k2, ?_⟩
          rw [H.get_set, if_neg (fun e => hn (by rw [← e]; exact List.mem_singleton.2 rfl))]
          exact kg
      have inA : ∀ r ∈ A, b' ∉ blkOf r.2.1 ∧ b' ∉ blkOf r.2.2 := fun r hr => ⟨fun q => hA (List.mem_flatMap.2 ⟨r, hr, List.mem_append_left _ q⟩), fun q => hA (List.mem_flatMap.2 ⟨r, hr, List.mem_append_right _ q⟩)⟩
      have inC : ∀ r ∈ C, b' ∉ blkOf r.2.1 ∧ b' ∉ blkOf r.2.2 := fun r hr => ⟨fun q => hC (List.mem_flatMap.2 ⟨r, hr, List.mem_append_left _ q⟩), fun q => hC (List.mem_flatMap.2 ⟨r, hr, List.mem_append_right _ q⟩)⟩
      refine ⟨fun r hr => ?_, by rw [← hbk]; exact own.1.nd⟩
      rcases List.mem_append.1 hr with hr | hr
      · have := own.1.row r (List.mem_append_left _ hr)
        exact ⟨one _ _ this.1 (inA r hr).1, one _ _ this.2 (inA r hr).2⟩
      · rcases List.mem_cons.1 hr with rfl | hr
        · have hnew : SlO lo h.next (h.set b' (.cells (svs (f.stack.set j (T s))))) sv (f.stack.set j (T s)) := .inr ⟨b', cap, by rw [List.length_set]; exact e, h1, h2, by rw [H.get_set, if_pos rfl]⟩
          have hold := one _ _ (own.1.row _ hmem).1 hO
          exact ⟨hold, hnew⟩
        · have := own.1.row r (List.mem_append_right _ (List.mem_cons_of_mem _ hr))
          exact ⟨one _ _ this.1 (inC r hr).1, one _ _ this.2 (inC r hr).2⟩
    · rw [H.get_set, if_neg hBb, gB, rows_append, rows_append]
      rfl
end Go.Abs.Sy

namespace Go.Abs.Sy
open Go.Abs

variable {E : Env}

theorem wr_move {h h2 : H} {b o : Nat} {w : List V} {ob : O} (hw : h.wr b o w = some (h.set b ob)) (hg : h2.get b = h.get b) : h2.wr b o w = some (h2.set b ob) := by
  unfold H.wr at hw ⊢
  rw [hg]
  split at hw
  · rename_i c e
    split at hw
    · rename_i hl
      have e2 := congrArg (fun x : Option H => x.map (fun y => y.get b)) hw
      simp only [Option.map_some, H.get_set, if_true, Option.some.injEq] at e2
      (try simp only [e])
      rw [if_pos hl, e2]
    · cases hw
  · cases hw

structure SameH (h h' : H) : Prop where
  get : ∀ c, h'.get c = h.get c
  next : h'.next = h.next

theorem SameH.rd {h h' : H} (s : SameH h h') (b o n : Nat) : h'.rd b o n = h.rd b o n := by unfold H.rd; rw [s.get]
theorem SameH.pres {h0 h h' : H} (s : SameH h h') (p : Pres h0 h) : Pres h0 h' := ⟨by rw [s.next]; exact p.next, fun b hb => by rw [s.get]; exact p.same b hb, fun b hb => by rw [s.get]; rw [s.next] at hb; exact p.top b hb⟩
theorem SameH.slO {lo hi : Nat} {h h' : H} (s : SameH h h') {v : V} {l : List SV} (r : SlO lo hi h v l) : SlO lo hi h' v l := by
  rcases r with r | ⟨b, cap, e, h1, h2, hg⟩
  · exact .inl r
  · exact .inr ⟨b, cap, e, h1, h2, by rw [s.get]; exact hg⟩
theorem SameH.outR {lo : Nat} {h h' : H} (s : SameH h h') {v : V} {g : List Row} (o : OutR lo h v g) : OutR lo h' v g := by
  refine ⟨⟨fun r hr => by rw [s.next]; exact ⟨s.slO (o.1.row r hr).1, s.slO (o.1.row r hr).2⟩, o.1.nd⟩, ?_⟩
  rcases o.2 with r | ⟨b, e, h1, h2, h3, h4⟩
  · exact .inl r
  · exact .inr ⟨b, e, h1, by rw [s.next]; exact h2, h3, by rw [s.get]; exact h4⟩

theorem Spot.id {T : SV → SV} {v : V} {n : Nat} {f f' : Fr} {vv sv : V} {b o : Nat} {s : SV} (sp : Spot T v n f vv sv b o s f') (ht : T s = s) : f' = f := by
  cases sp with
  | self _ => cases f; simp only at ht ⊢; rw [ht]
  | hold _ => cases f; simp only at ht ⊢; rw [ht]
  | vars _ hs =>
    cases f; simp only at hs ⊢; rw [ht]
    congr 1
    obtain ⟨hj, e⟩ := List.getElem?_eq_some_iff.1 hs
    rw [← e]; exact List.set_getElem_self hj
  | stack _ hs =>
    cases f; simp only at hs ⊢; rw [ht]
    congr 1
    obtain ⟨hj, e⟩ := List.getElem?_eq_some_iff.1 hs
    rw [← e]; exact List.set_getElem_self hj

def repl (a b s : SV) : SV := if s = a then b else s

def rpA : ACode := .region [⟨.l 7, .mv (.l 8), none, 0⟩]
def rpB : ACode := match fn8.body with
  | .seq _ (.seq _ (.seq (.seq _ (.block _ (.rfun _ _ _ b))) _)) => b
  | _ => .skip

/-- what holds between the rounds of Replace -/
structure RI (h0 : H) (lo : Nat) (v : V) (box l bf bt : Nat) (a b : SV) (loc : List V) (g : List Row) (seen : List SV) (h : H) : Prop where
  out : OutR lo h v g
  bx : h.rd box 0 1 = some [v]
  pres : Pres h0 h
  lp : h.get l = some (.loop .ready none 8 loc [.t 14, .l 8] rpA rpB)
  ra : h.rd bf 0 6 = some a.cells
  rb : h.rd bt 0 6 = some b.cells
  low : (∀ c ∈ blks g, c < box) ∧ ∀ B o n c, v = .sl B o n c → B < box
  bds : bf < lo ∧ bt < lo ∧ lo ≤ box ∧ box < l ∧ l < h.next ∧ h0.next ≤ lo

theorem rp_round (_hE : ExtMono E) {h0 : H} {lo : Nat} {v : V} {box l bf bt : Nat} {a b : SV} {x0 x1 x2 x5 x6 x7 x8 : V} {A C : List Row} {f f' : Fr} {vv sv : V} {seen : List SV} {h : H} {c o : Nat} {s : SV}
    (I : RI h0 lo v box l bf bt a b [x0, x1, x2, .ptr bf 0, .ptr bt 0, x5, x6, x7, x8] (A ++ (f, vv, sv) :: C) seen h) (sp : Spot (repl a b) v A.length f vv sv c o s f') (k : Nat) :
    callV E (sems E (k + 20)) (.fn (.yield l) [] []) [.int .i64 A.length, .ptr c o] h fun r h' => r = .ret (.bool true) ∧ RI h0 lo v box l bf bt a b [x0, x1, x2, .ptr bf 0, .ptr bt 0, x5, x6, x7, x8] (A ++ (f', vv, sv) :: C) (seen ++ [s]) h' := by
  obtain ⟨rs, hlo, hlt, hwhere, ob, hwr, hout⟩ := Spot.turn I.out sp
  obtain ⟨d1, d2, d3, d4, d5, d6⟩ := I.bds
  have hcb : c < box := by
    rcases hwhere with e | e
    · exact I.low.2 _ _ _ _ e
    · exact I.low.1 c e
  have hcl : c ≠ l := by omega
  unfold callV
  simp only [List.nil_append]
  unfold roundF
  rw [I.lp]
  have gs : (h.set l (.loop .busy none 8 [x0, x1, x2, .ptr bf 0, .ptr bt 0, x5, x6, x7, x8] [.t 14, .l 8] rpA rpB)).rd c o 6 = some s.cells := by
    unfold H.rd; rw [H.get_set, if_neg hcl]; exact rs
  have ga : (h.set l (.loop .busy none 8 [x0, x1, x2, .ptr bf 0, .ptr bt 0, x5, x6, x7, x8] [.t 14, .l 8] rpA rpB)).rd bf 0 6 = some a.cells := by
    unfold H.rd; rw [H.get_set, if_neg (by omega)]; exact I.ra
  have gb : (h.set l (.loop .busy none 8 [x0, x1, x2, .ptr bf 0, .ptr bt 0, x5, x6, x7, x8] [.t 14, .l 8] rpA rpB)).rd bt 0 6 = some b.cells := by
    unfold H.rd; rw [H.get_set, if_neg (by omega)]; exact I.rb
  have gl : (h.set l (.loop .busy none 8 [x0, x1, x2, .ptr bf 0, .ptr bt 0, x5, x6, x7, x8] [.t 14, .l 8] rpA rpB)).get l = some (.loop .busy none 8 [x0, x1, x2, .ptr bf 0, .ptr bt 0, x5, x6, x7, x8] [.t 14, .l 8] rpA rpB) := by rw [H.get_set, if_pos rfl]
  have hlp := I.lp
  simp only [q_putL, q_putT, List.set_cons_zero, List.set_cons_succ, if_true, List.length_cons, List.length_nil, Nat.reduceAdd, Nat.zero_add, true_and, eq_self, List.zip_cons_cons, List.zip_nil_right, List.foldl_cons, List.foldl_nil]
  unfold rpA
  simp only [↓q_region, ↓q_nil, q_putL, q_evl, evOp, List.getD_cons_zero, List.getD_cons_succ, List.set_cons_zero, List.set_cons_succ, ↓z_some, ↓z_mv, hlp]
  have hbk : blks (A ++ (f', vv, sv) :: C) = blks (A ++ (f, vv, sv) :: C) := by rw [blks_append, blks_append]; rfl
  have rdne : ∀ (hh : H) (x y q n : Nat) (oo : O), x ≠ y → (hh.set y oo).rd x q n = hh.rd x q n := fun hh x y q n oo hxy => by unfold H.rd; rw [H.get_set, if_neg hxy]
  by_cases hs : s = a
  · have hd : decide (s = a) = true := by simp only [hs, decide_true]
    have hT : repl a b s = b := by unfold repl; rw [if_pos hs]
    rw [hT] at hwr
    have hw2 := wr_move (h2 := h.set l (.loop .busy none 8 [x0, x1, x2, .ptr bf 0, .ptr bt 0, x5, x6, x7, x8] [.t 14, .l 8] rpA rpB)) hwr (by rw [H.get_set, if_neg hcl])
    have gl2 : ((h.set l (.loop .busy none 8 [x0, x1, x2, .ptr bf 0, .ptr bt 0, x5, x6, x7, x8] [.t 14, .l 8] rpA rpB)).set c ob).get l = some (.loop .busy none 8 [x0, x1, x2, .ptr bf 0, .ptr bt 0, x5, x6, x7, x8] [.t 14, .l 8] rpA rpB) := by rw [H.get_set, if_neg (Ne.symm hcl)]; exact gl
    have hsame : SameH (h.set c ob) (((h.set l (.loop .busy none 8 [x0, x1, x2, .ptr bf 0, .ptr bt 0, x5, x6, x7, x8] [.t 14, .l 8] rpA rpB)).set c ob).set l (.loop .ready none 8 [x0, x1, x2, .ptr bf 0, .ptr bt 0, x5, x6, x7, x8] [.t 14, .l 8] rpA rpB)) := by
      refine ⟨fun x => ?_, rfl⟩
      simp only [H.get_set]
      by_cases h1 : x = l
      · rw [if_pos h1, if_neg (by rw [h1]; exact Ne.symm hcl), h1, I.lp]
      · rw [if_neg h1]
        by_cases h2 : x = c
        · rw [if_pos h2, if_pos h2]
        · rw [if_neg h2, if_neg h2, if_neg h1]
    generalize hhb : h.set l (.loop .busy none 8 [x0, x1, x2, .ptr bf 0, .ptr bt 0, x5, x6, x7, x8] [.t 14, .l 8] rpA rpB) = hb at *
    have hbc : b.cells.length = 6 := rfl
    have hba : b.cells.all V.cellOK = true := rfl
    simp only [rpB, fn8, ↓q_region, ↓q_cond, ↓q_nil, q_putT, q_putN, q_evl, q_evt, q_mapsome, evOp, List.getD_cons_zero, List.getD_cons_succ, if_true, if_false, Nat.reduceEqDiff, Bool.false_eq_true, and_self, p_agg, ↓q_draw, ↓d_nil, eq_self, r_mv, r_load, r_nilck, ↓z_seq, ↓z_block, ↓z_snrm, ↓z_bnrm, ↓z_some, ↓z_dsome, ↓z_mv, ↓zd_mv, ↓z_load, ↓zd_load, ↓z_store, ↓z_nilck, ↓zd_nilck, ↓zd_eq, nilckOK, gs, ga, gb, sv_eq, hd, hbc, hba, hw2, gl2]
    refine ⟨hsame.outR hout, ?_, hsame.pres (I.pres.set (by omega) hlt ob), by rw [H.get_set, if_pos rfl]; rfl, ?_, ?_, ⟨by rw [hbk]; exact I.low.1, I.low.2⟩, ⟨d1, d2, d3, d4, Nat.lt_of_lt_of_eq d5 hsame.next.symm, d6⟩⟩
    · exact (hsame.rd _ _ _).trans ((rdne h box c 0 1 ob (by omega)).trans I.bx)
    · exact (hsame.rd _ _ _).trans ((rdne h bf c 0 6 ob (by omega)).trans I.ra)
    · exact (hsame.rd _ _ _).trans ((rdne h bt c 0 6 ob (by omega)).trans I.rb)
  · have hd : decide (s = a) = false := by simp only [hs, decide_false]
    have hT : repl a b s = s := by unfold repl; rw [if_neg hs]
    have hff := Spot.id sp hT
    subst hff
    have hsame : SameH h ((h.set l (.loop .busy none 8 [x0, x1, x2, .ptr bf 0, .ptr bt 0, x5, x6, x7, x8] [.t 14, .l 8] rpA rpB)).set l (.loop .ready none 8 [x0, x1, x2, .ptr bf 0, .ptr bt 0, x5, x6, x7, x8] [.t 14, .l 8] rpA rpB)) := by
      refine ⟨fun x => ?_, rfl⟩
      simp only [H.get_set]
      by_cases h1 : x = l
      · rw [if_pos h1, h1, I.lp]
      · rw [if_neg h1, if_neg h1]
    generalize hhb : h.set l (.loop .busy none 8 [x0, x1, x2, .ptr bf 0, .ptr bt 0, x5, x6, x7, x8] [.t 14, .l 8] rpA rpB) = hb at *
    simp only [rpB, fn8, ↓q_skip, ↓q_cond, q_putT, q_evl, q_evt, q_mapsome, evOp, List.getD_cons_zero, List.getD_cons_succ, if_true, if_false, Nat.reduceEqDiff, Bool.false_eq_true, ↓q_draw, ↓d_nil, eq_self, r_mv, r_load, r_nilck, ↓z_seq, ↓z_block, ↓z_snrm, ↓z_bnrm, ↓z_dsome, ↓zd_mv, ↓zd_load, ↓zd_nilck, ↓zd_eq, nilckOK, gs, ga, sv_eq, hd, gl]
    exact ⟨hsame.outR I.out, (hsame.rd _ _ _).trans I.bx, hsame.pres I.pres, by rw [H.get_set, if_pos rfl]; rfl, (hsame.rd _ _ _).trans I.ra, (hsame.rd _ _ _).trans I.rb, I.low, ⟨d1, d2, d3, d4, Nat.lt_of_lt_of_eq d5 hsame.next.symm, d6⟩⟩

theorem OutR.pres {lo : Nat} {h h' : H} (w : WF h) (p : Pres h h') {v : V} {g : List Row} (o : OutR lo h v g) : OutR lo h' v g := by
  refine ⟨o.1.pres w p, ?_⟩
  rcases o.2 with r | ⟨b, e, h1, h2, h3, h4⟩
  · exact .inl r
  · exact .inr ⟨b, e, h1, Nat.lt_of_lt_of_le h2 p.next, h3, by rw [p.same b h2]; exact h4⟩
theorem OutR.set {lo : Nat} {h : H} {v : V} {g : List Row} (o : OutR lo h v g) {l : Nat} (hl : l ∉ blks g) (hv : ∀ B o' n c, v = .sl B o' n c → B ≠ l) (ob : O) : OutR lo (h.set l ob) v g := by
  refine ⟨o.1.set hl ob, ?_⟩
  rcases o.2 with r | ⟨b, e, h1, h2, h3, h4⟩
  · exact .inl r
  · exact .inr ⟨b, e, h1, h2, h3, by rw [H.get_set, if_neg (hv _ _ _ _ e)]; exact h4⟩

/-- a frame, all its values turned -/
def frT (T : SV → SV) (f : Fr) : Fr := { f with self := T f.self, hold := T f.hold, vars := f.vars.map T, stack := f.stack.map T }

theorem q_rfun {E : Env} {k : Nat} {cx : Cx} {g : Abs.A} {ps : List D} {as_ body : ACode} {loc : List V} {tl : List (Nat × V)} {df : List (V × List V)} {h : H} {Q : X → St → Prop}
    (h1 : roundOK cx h) (h2 : isFuncV (evA loc tl g) = true) (h3 : callV E (sems E k) (evA loc tl g) [.fn (.yield h.next) [] []] (h.push (.loop .ready none cx.fn loc ps as_ body)) fun r h' =>
      (∃ v, r = .ret v) ∧ ∃ s f2 l2 p2 a2 b2, h'.get h.next = some (.loop s none f2 l2 p2 a2 b2) ∧ s ≠ .busy ∧ Q .nrm ⟨loc, [], df, h'.set h.next (.loop .exhausted none f2 l2 p2 a2 b2)⟩) (hE : ExtMono E) :
    (sems E (k + 1)).code cx (.rfun g ps as_ body) ⟨loc, tl, df, h⟩ Q := by
  refine ⟨h1, h2, callV_le hE (sems_le hE k k (Nat.le_refl _)) _ _ _ _ _ ?_ h3⟩
  rintro r h' ⟨⟨v, rfl⟩, s, f2, l2, p2, a2, b2, hg, hs, hq⟩
  dsimp only
  rw [hg]
  dsimp only
  cases s <;> first | exact absurd rfl hs | exact hq

theorem replace8 (hE : Env0 E) {h : H} (w : WF h) {v : V} {g : List Row} (fs : FsR h v g) (hf : fits20 g) {m : Nat} (hm : ∀ r ∈ g, r.1.vars.length ≤ m ∧ r.1.stack.length ≤ m) {a b : SV} {R : Ret → H → Prop}
    (hR : ∀ v' g' h', Pres h h' → FsR h' v' g' → g'.map (·.1) = (g.map (·.1)).map (frT (repl a b)) → R (.ret v') h') (k : Nat) : callF E (sems E (k + m + g.length + 200)) 8 [v, .agg a.cells, .agg b.cells] h R := by
  rw [show k + m + g.length + 200 = (k + m + g.length + 199) + 1 from by omega]
  refine call_in hE.mono (hE.none 8 (by decide)) (by rw [hE.ft]; rfl) rfl rfl ?_
  show (sems E (k + m + g.length + 199)).code _ fn8.body ⟨[v, .agg a.cells, .agg b.cells, .tup [], .tup [], .tup [], .tup [], .tup [], .tup []], [], [], h⟩ (EndQ [.loc 5] R)
  have hbd : fn8.body = .seq (.region [⟨.l 3, .box (.l 1), none, 0⟩, ⟨.l 4, .box (.l 2), none, 0⟩, ⟨.l 5, .mv (.c .nils), none, 0⟩]) (.seq (.region [⟨.t 10, .mv (.l 0), none, 0⟩, ⟨.t 11, .call (.f 16) [.t 10], none, 0⟩, ⟨.l 6, .mv (.t 11), none, 0⟩])
    (.seq (.seq (.region [⟨.t 12, .mv (.l 6), none, 0⟩, ⟨.t 13, .call (.f 15) [.t 12], none, 0⟩]) (.block 0 (.rfun (.t 13) [.t 14, .l 8] rpA rpB))) (.seq (.region [⟨.t 24, .mv (.l 6), none, 0⟩, ⟨.l 5, .mv (.t 24), none, 0⟩]) .ret))) := rfl
  rw [hbd]
  simp only [↓q_region, ↓q_nil, q_putL, q_putT, q_evl, q_evt, q_evc, q_evf, q_mapsome, evOp, List.getD_cons_zero, List.getD_cons_succ, List.set_cons_zero, List.set_cons_succ, if_true, if_false, Nat.reduceEqDiff, List.map_cons, List.map_nil, List.nil_append, List.append_nil, p_agg, eq_self, H.next_push, ↓z_seq, ↓z_block, ↓z_snrm, ↓z_span, ↓z_some, ↓z_call, ↓z_mv, ↓z_box, callV]
  have p1 : Pres h ((h.push (.cells a.cells)).push (.cells b.cells)) := (Pres.push w _).trans (Pres.push (Pres.push w _).wf _)
  have n1 : ((h.push (.cells a.cells)).push (.cells b.cells)).next = h.next + 2 := rfl
  have ga : ((h.push (.cells a.cells)).push (.cells b.cells)).rd h.next 0 6 = some a.cells :=
    (rd_of (c := a.cells) (by rw [H.get_push, if_neg (show ¬ h.next = (h.push (.cells a.cells)).next from Nat.ne_of_lt (Nat.lt_succ_self _)), H.get_push, if_pos rfl]) (Nat.le_of_ble_eq_true rfl)).trans rfl
  have gb : ((h.push (.cells a.cells)).push (.cells b.cells)).rd (h.next + 1) 0 6 = some b.cells :=
    (rd_of (c := b.cells) (by rw [H.get_push, if_pos (show h.next + 1 = (h.push (.cells a.cells)).next from rfl)]) (Nat.le_of_ble_eq_true rfl)).trans rfl
  generalize (h.push (.cells a.cells)).push (.cells b.cells) = h1 at *
  refine callF_le hE.mono (sems_le hE.mono (0 + g.length + 70) _ (by omega)) (fun _ _ x => x) (copied16 hE p1.wf (fs.pres w p1) hf ?_ 0)
  intro v' g' h2 p2 o2 hg'
  have cv : v'.cellOK = true := by rcases o2.2 with ⟨rfl, _⟩ | ⟨B, rfl, _⟩ <;> rfl
  simp only []
  refine callF_le hE.mono (sems_le hE.mono (10 + 1) _ (by omega)) (fun _ _ x => x) ?_
  refine call_in hE.mono (hE.none 15 (by decide)) (by rw [hE.ft]; rfl) rfl rfl ?_
  show (sems E 10).code _ fn15.body ⟨[v', .tup [], .tup []], [], [], h2⟩ _
  simp only [fn15, ↓q_region, ↓q_ret, ↓q_nil, q_putL, q_putT, q_evl, q_evt, q_evc, q_mapsome, evOp, List.getD_cons_zero, List.getD_cons_succ, List.set_cons_zero, List.set_cons_succ, if_true, List.map_cons, List.map_nil, eq_self, ↓z_seq, ↓z_snrm, ↓z_some, ↓z_mv, ↓z_box, ↓z_mkFn, p_ok cv]
  refine ⟨rfl, .fn (.func 35) [] [.ptr h2.next 0], rfl, ?_⟩
  simp only []
  rw [show k + m + g.length + 194 = (k + m + g.length + 193) + 1 from by omega]
  refine q_rfun trivial rfl ?_ hE.mono
  simp only [↓q_region, ↓q_ret, ↓q_nil, q_putL, q_putT, q_evl, q_evt, evOp, List.getD_cons_zero, List.getD_cons_succ, List.set_cons_zero, List.set_cons_succ, if_true, if_false, Nat.reduceEqDiff, List.cons_append, List.nil_append, eq_self, H.next_push, ↓z_seq, ↓z_snrm, ↓z_bnrm, ↓z_some, ↓z_mv, callV]
  have hlen : g'.length = g.length := by have := congrArg List.length hg'; rw [List.length_map, List.length_map] at this; exact this
  have hfr : ∀ r ∈ g', ∃ r0 ∈ g, r0.1 = r.1 := by
    intro r hr
    have : r.1 ∈ g'.map (·.1) := List.mem_map.2 ⟨r, hr, rfl⟩
    rw [hg'] at this
    obtain ⟨r0, h0, e⟩ := List.mem_map.1 this
    exact ⟨r0, h0, e⟩
  have hf' : fits20 g' := ⟨by rw [hlen]; exact hf.1, fun r hr => by obtain ⟨r0, h0, e⟩ := hfr r hr; rw [← e]; exact hf.2 r0 h0⟩
  have hm' : ∀ r ∈ g', r.1.vars.length ≤ m ∧ r.1.stack.length ≤ m := fun r hr => by obtain ⟨r0, h0, e⟩ := hfr r hr; rw [← e]; exact hm r0 h0
  have hbB : ∀ B o n c, v' = .sl B o n c → B < h2.next := by
    intro B o n c e
    rcases o2.2 with ⟨e2, _⟩ | ⟨B', e2, _, hlt, _⟩
    · rw [e2] at e; cases e
    · rw [e2] at e; injection e with e; omega
  have M : Iter (repl a b) h1.next v' h2.next (.fn (.yield (h2.next + 1)) [] []) 20 E (RI h h1.next v' h2.next (h2.next + 1) h.next (h.next + 1) a b [v, .agg a.cells, .agg b.cells, .ptr h.next 0, .ptr (h.next + 1) 0, .nils, v', .tup [], .tup []]) := by
    refine ⟨fun g seen h I => ⟨I.out, I.bx⟩, ?_⟩
    intro A C f f' vv sv seen hh c o s hI sp k' hk
    obtain ⟨k2, rfl⟩ := Nat.exists_eq_add_of_le hk
    rw [Nat.add_comm 20 k2]
    exact rp_round hE.mono hI sp k2
  have p3 : Pres h2 ((h2.push (.cells [v'])).push (.loop .ready none 8 [v, .agg a.cells, .agg b.cells, .ptr h.next 0, .ptr (h.next + 1) 0, .nils, v', .tup [], .tup []] [.t 14, .l 8] rpA rpB)) := (Pres.push p2.wf _).trans (Pres.push (Pres.push p2.wf _).wf _)
  have hI : RI h h1.next v' h2.next (h2.next + 1) h.next (h.next + 1) a b [v, .agg a.cells, .agg b.cells, .ptr h.next 0, .ptr (h.next + 1) 0, .nils, v', .tup [], .tup []] g' [] ((h2.push (.cells [v'])).push (.loop .ready none 8 [v, .agg a.cells, .agg b.cells, .ptr h.next 0, .ptr (h.next + 1) 0, .nils, v', .tup [], .tup []] [.t 14, .l 8] rpA rpB)) := by
    refine ⟨o2.pres p2.wf p3, ?_, (p1.trans p2).trans p3, ?_, rd_pres p2.wf p3 (rd_pres p1.wf p2 ga), rd_pres p2.wf p3 (rd_pres p1.wf p2 gb), ⟨fun c hc => (o2.1.blk c hc).2, hbB⟩, ⟨by omega, by omega, p2.next, by omega, ?_, p1.next⟩⟩
    · exact (rd_of (c := [v']) (by rw [H.get_push, if_neg (show ¬ h2.next = (h2.push (.cells [v'])).next from Nat.ne_of_lt (Nat.lt_succ_self _)), H.get_push, if_pos rfl]) (Nat.le_of_ble_eq_true rfl)).trans rfl
    · rw [H.get_push, if_pos (show h2.next + 1 = (h2.push (.cells [v'])).next from rfl)]
    · show h2.next + 1 < h2.next + 1 + 1; omega
  refine callF_le hE.mono (sems_le hE.mono (0 + 20 + m + g'.length + 90) _ (by omega)) (fun _ _ x => x) (values35 hE M hf' hm' hI ?_ 0)
  intro h' hI'
  refine ⟨⟨_, rfl⟩, _, _, _, _, _, _, hI'.lp, by decide, ?_⟩
  have hbl : h2.next + 1 ∉ blks (g'.map (rowT (repl a b))) := fun q => by have := hI'.low.1 _ q; omega
  refine ⟨rfl, v', rfl, hR v' _ _ (hI'.pres.set ?_ hI'.bds.2.2.2.2.1 _) ((hI'.out.set hbl (fun B o n c e => by have := hbB B o n c e; omega) _).fsR) ?_⟩
  · have := p1.next; have := p2.next; omega
  · rw [List.map_map, ← hg', List.map_map]; rfl
end Go.Abs.Sy
