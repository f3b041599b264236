/-
  A yes/no twin of the abstract machine's meaning, to be reduced by the kernel; what it says yes to holds.
-/
import Derived.Test.YtaaimcecdoeimaaGreatDoorMachA
namespace Go.Abs

/-- functions, and library functions by what they give -/
structure EEnv where
  ft : FuncId → Option AFunc
  xt : FuncId → Option (List V → H → Option (Ret × H))

def EEnv.env (E : EEnv) : Env := ⟨E.ft, fun f => (E.xt f).map fun g => fun args h R => ∃ r h', g args h = some (r, h') ∧ R r h'⟩

structure Evs where
  code : Cx → ACode → St → (X → St → Bool) → Bool
  frame : FuncId → List V → Option (Option V) → H → (Ret → Bool → H → Bool) → Bool

abbrev BVT := V → List V → H → (Ret → H → Bool) → Bool

def Ret.toX (r : Ret) (st : St) (h : H) (K : V → St → Bool) (Q : X → St → Bool) : Bool :=
  match r with
  | .ret v => K v { st with h := h }
  | .pan v => Q (.pan v) { st with h := h }

def deferB (cx : Cx) (f : V) (args : List V) (st : St) (K : V → St → Bool) : Bool :=
  match cx.rnd, f with
  | none, .fn (.func g) a b => K (.tup []) { st with df := (.fn (.func g) a b, args) :: st.df }
  | _, _ => false

def panicB (x : V) (st : St) (Q : X → St → Bool) : Bool :=
  match x with
  | .iface t v => Q (.pan (.iface t v)) st
  | _ => false

def nextB (x : V) (st : St) (K : V → St → Bool) : Bool :=
  match x with
  | .ptr b 0 => match st.h.get b with
    | some (.miter none _ _ _) => K (.tup [.bool false]) st
    | some (.miter (some m) since seen stp) => match st.h.get m with
      | some (.map es cl) =>
        Nat.beq cl stp && (Nat.beq since stp && ((es.all fun x => x.2.2 < cl) &&
        (match leftOf es seen with
         | [] => K (.tup [.bool false]) st
         | [x] => K (.tup [.bool true, x.1, x.2.1]) { st with h := st.h.set b (.miter (some m) since (seen ++ [x.2.2]) cl) }
         | _ => false)))
      | _ => false
    | _ => false
  | _ => false

def plainB (op : AOp) (st : St) (K : V → St → Bool) : Bool :=
  match evOp op (evA st.loc st.tl) st.h with
  | some (v, h') => K v { st with h := h' }
  | none => false

def stepB (CV : BVT) (cx : Cx) (op : AOp) (st : St) (K : V → St → Bool) (Q : X → St → Bool) : Bool :=
  match op with
  | .call f args => CV (evA st.loc st.tl f) (args.map (evA st.loc st.tl)) st.h fun r h' => r.toX st h' K Q
  | .defer f args => deferB cx (evA st.loc st.tl f) (args.map (evA st.loc st.tl)) st K
  | .panic x => panicB (evA st.loc st.tl x) st Q
  | .recover => false
  | .nextMap x => nextB (evA st.loc st.tl x) st K
  | op => plainB op st K

def opsNB (CV : BVT) (cx : Cx) : List AOper → St → (X → St → Bool) → Bool
  | [], st, Q => Q .nrm st
  | o :: r, st, Q =>
    match wantedA st o.grd with
    | none => false
    | some false => opsNB CV cx r (st.put o.d (.tup [])) Q
    | some true => stepB CV cx o.op st (fun v st' => opsNB CV cx r (st'.put o.d v) Q) Q

def opsDB (CV : BVT) (cx : Cx) (all : List (Nat × AOper)) : List (Nat × AOper) → List Rec → St → (X → St → Bool) → Bool
  | [], _, st, Q => Q .nrm st
  | o :: r, rs, st, Q =>
    match wantedA st o.2.grd with
    | none => false
    | some false => opsDB CV cx all r rs (st.put o.2.d (.tup [])) Q
    | some true =>
      match isEff o.2.op with
      | true =>
        stepB CV cx o.2.op st
          (fun v st' => (rs.all fun q => o.2.bf.testBit q.i || q.again st'.h) && opsDB CV cx all r rs (st'.put o.2.d v) Q)
          (fun x st' => Q x { st' with loc := forget st.loc all, tl := [] })
      | false =>
        match evOp o.2.op (evA st.loc st.tl) st.h with
        | none => false
        | some (v, h') => opsDB CV cx all r (if isRead o.2.op then ⟨o.1, o.2.op, st.loc, st.tl, v⟩ :: rs else rs) ({ st with h := h' }.put o.2.d v) Q

def callFB (E : EEnv) (S : Evs) (f : FuncId) (args : List V) (h : H) (R : Ret → H → Bool) : Bool :=
  match E.xt f with
  | some g => (match g args h with
    | some (r, h') => R r h'
    | none => false)
  | none => (match E.ft f with
    | some fn => fn.rcv.isNone && S.frame f args none h fun r _ h' => R r h'
    | none => false)

def roundEnd (l : Nat) (y : X) (h : H) (R : Ret → H → Bool) : Bool :=
  match y, h.get l with
  | .nrm, some (.loop .busy none f2 l2 p2 a2 b2) => R (.ret (.bool true)) (h.set l (.loop .ready none f2 l2 p2 a2 b2))
  | .ret, some (.loop .busy none f2 l2 p2 a2 b2) => R (.ret (.bool false)) (h.set l (.loop .done (some .ret) f2 l2 p2 a2 b2))
  | .exit id, some (.loop .busy none f2 l2 p2 a2 b2) => R (.ret (.bool false)) (h.set l (.loop .done (some (.exit id)) f2 l2 p2 a2 b2))
  | _, _ => false

def roundB (S : Evs) (l : Nat) (args : List V) (h : H) (R : Ret → H → Bool) : Bool :=
  match h.get l with
  | some (.loop .ready none fn loc ps assign body) =>
    Nat.beq args.length ps.length &&
      S.code ⟨fn, some l⟩ assign ((ps.zip args).foldl (fun st p => st.put p.1 p.2) { loc := loc, tl := [], df := [], h := h }) fun x st1 =>
        match x with
        | .nrm => (match st1.h.get l with
          | some (.loop .ready none fn' loc' ps' as' body') =>
            S.code ⟨fn, some l⟩ body { st1 with tl := [], h := st1.h.set l (.loop .busy none fn' loc' ps' as' body') } fun y st2 => roundEnd l y st2.h R
          | _ => false)
        | _ => false
  | _ => false

def callB (E : EEnv) (S : Evs) (f : V) (args : List V) (h : H) (R : Ret → H → Bool) : Bool :=
  match f with
  | .fn (.func g) a b => callFB E S g (a ++ (args ++ b)) h R
  | .fn (.yield l) a _ => roundB S l (a ++ args) h R
  | _ => false

def roundOKB (cx : Cx) (h : H) : Bool :=
  match cx.rnd with
  | none => true
  | some l => match h.get l with
    | some (.loop ..) => true
    | _ => false

def rfunEnd (l : Nat) (st : St) (r : Ret) (h' : H) (Q : X → St → Bool) : Bool :=
  match r with
  | .pan _ => false
  | .ret _ => match h'.get l with
    | some (.loop s pend f2 l2 p2 a2 b2) =>
      (match s, pend with
      | .busy, _ => false
      | _, none => Q .nrm { st with tl := [], h := h'.set l (.loop .exhausted pend f2 l2 p2 a2 b2) }
      | _, some x => Q x { st with tl := [], h := h'.set l (.loop .exhausted pend f2 l2 p2 a2 b2) })
    | _ => false

def codeB (E : EEnv) (S : Evs) (cx : Cx) (c : ACode) (st : St) (Q : X → St → Bool) : Bool :=
  match c with
  | .skip => Q .nrm st
  | .region ops => opsNB (callB E S) cx ops { st with tl := [] } Q
  | .draw ops => opsDB (callB E S) cx ops ops [] { st with tl := [] } Q
  | .seq a b => S.code cx a st fun x st' =>
      match x with
      | .nrm => S.code cx b st' Q
      | x => Q x st'
  | .cond c a b => match evA st.loc st.tl c with
    | .bool true => S.code cx a { st with tl := [] } Q
    | .bool false => S.code cx b { st with tl := [] } Q
    | _ => false
  | .block id b => S.code cx b st fun x st' =>
      match x with
      | .exit i => (match Nat.beq i id with
        | true => Q .nrm { st' with tl := [] }
        | false => Q (.exit i) st')
      | x => Q x st'
  | .loop b => S.code cx b { st with tl := [] } fun x st' =>
      match x with
      | .nrm => S.code cx (.loop b) st' Q
      | x => Q x st'
  | .rfun g ps assign body =>
    roundOKB cx st.h && (isFuncV (evA st.loc st.tl g) &&
    callB E S (evA st.loc st.tl g) [.fn (.yield st.h.next) [] []] (st.h.push (.loop .ready none cx.fn st.loc ps assign body)) fun r h' =>
      rfunEnd st.h.next st r h' Q)
  | .exit id => Q (.exit id) st
  | .ret => Q .ret st
  | .refuse => false

def leaveB (S : Evs) (fn : AFunc) (loc : List V) (R : Ret → H → Bool) : List (V × List V) → Option V → H → Bool
  | [], some v, h => R (.pan v) h
  | [], none, h => match resAll loc h fn.res with
    | some v => R (.ret v) h
    | none => false
  | (.fn (.func g) a b, args) :: ds, pan, h =>
    S.frame g (a ++ args ++ b) (some pan) h fun r got h' =>
      match r with
      | .ret _ => leaveB S fn loc R ds (if got then none else pan) h'
      | .pan _ => false
  | _ :: _, _, _ => false

def frameB (E : EEnv) (S : Evs) (f : FuncId) (args : List V) (pd : Option (Option V)) (h : H) (R : Ret → Bool → H → Bool) : Bool :=
  match E.ft f with
  | none => false
  | some fn =>
    Nat.beq args.length fn.np &&
    S.code ⟨f, none⟩ fn.body (enterSt fn args (pd.getD none) h) fun x st =>
      (!pd.isSome || st.df.isEmpty) &&
      match x with
      | .nrm | .ret => leaveB S fn st.loc (fun r h => R r (fn.rcv.isSome && (pd.getD none).isSome) h) st.df none st.h
      | .pan v => leaveB S fn st.loc (fun r h => R r (fn.rcv.isSome && (pd.getD none).isSome) h) st.df (some v) st.h
      | .exit _ => false

noncomputable def evs (E : EEnv) (k : Nat) : Evs :=
  Nat.rec (motive := fun _ => Evs) ⟨fun _ _ _ _ => false, fun _ _ _ _ _ => false⟩ (fun _ S => ⟨codeB E S, frameB E S⟩) k

/-! ### what it says yes to holds -/
abbrev Im {α β : Type} (K : α → β → Bool) (K' : α → β → Prop) : Prop := ∀ a b, K a b = true → K' a b
abbrev Im3 {α β γ : Type} (K : α → β → γ → Bool) (K' : α → β → γ → Prop) : Prop := ∀ a b c, K a b c = true → K' a b c
def CVIm (C : BVT) (C' : CVT) : Prop := ∀ f a h R R', Im R R' → C f a h R = true → C' f a h R'
def CodeIm (C : Cx → ACode → St → (X → St → Bool) → Bool) (C' : Cx → ACode → St → (X → St → Prop) → Prop) : Prop := ∀ cx c st Q Q', Im Q Q' → C cx c st Q = true → C' cx c st Q'
def FrIm (C : FuncId → List V → Option (Option V) → H → (Ret → Bool → H → Bool) → Bool) (C' : FuncId → List V → Option (Option V) → H → (Ret → Bool → H → Prop) → Prop) : Prop :=
  ∀ f a p h R R', Im3 R R' → C f a p h R = true → C' f a p h R'

theorem plainB_im {op : AOp} {st : St} {K : V → St → Bool} {K' : V → St → Prop} (hK : Im K K') (h : plainB op st K = true) :
    (match evOp op (evA st.loc st.tl) st.h with
    | some (v, h') => K' v { st with h := h' }
    | none => False) := by
  unfold plainB at h
  cases hop : evOp op (evA st.loc st.tl) st.h with
  | none => rw [hop] at h; cases h
  | some p => rw [hop] at h; exact hK _ _ h

theorem nextB_im {C' : CVT} {cx : Cx} {x : A} {st : St} {K : V → St → Bool} {K' : V → St → Prop} {Q' : X → St → Prop}
    (hK : Im K K') (h : nextB (evA st.loc st.tl x) st K = true) : stepOp C' cx (.nextMap x) st K' Q' := by
  unfold nextB at h
  unfold stepOp
  dsimp only
  split at h
  · rename_i h2
    simp only [h2]
    split at h
    · rename_i h3
      simp only [h3]
      exact hK _ _ h
    · rename_i h3
      simp only [h3]
      split at h
      · rename_i es cl h4
        simp only [h4]
        rw [Bool.and_eq_true, Bool.and_eq_true, Bool.and_eq_true] at h
        obtain ⟨a1, a2, a3, a4⟩ := h
        refine ⟨Nat.eq_of_beq_eq_true a1, Nat.eq_of_beq_eq_true a2, a3, ?_, ?_⟩
        · intro hl
          rw [hl] at a4
          exact hK _ _ a4
        · intro x hx
          split at a4
          · rename_i hl
            rw [hl] at hx; cases hx
          · rename_i y hl
            rw [hl] at hx
            simp only [List.mem_singleton] at hx
            subst hx
            exact hK _ _ a4
          · cases a4
      · cases h
    · cases h
  · cases h

theorem stepB_im {C : BVT} {C' : CVT} (hC : CVIm C C') {cx : Cx} {op : AOp} {st : St} {K : V → St → Bool} {K' : V → St → Prop} {Q : X → St → Bool} {Q' : X → St → Prop}
    (hK : Im K K') (hQ : Im Q Q') (h : stepB C cx op st K Q = true) : stepOp C' cx op st K' Q' := by
  cases op with
  | call f args =>
    refine hC _ _ _ _ _ ?_ h
    intro r h' hr
    cases r with
    | ret v => exact hK _ _ hr
    | pan v => exact hQ _ _ hr
  | defer f args =>
    unfold stepB deferB at h
    unfold stepOp
    dsimp only at h ⊢
    split at h
    · rename_i h1 h2
      simp only [h1, h2]
      exact hK _ _ h
    · cases h
  | panic x =>
    unfold stepB panicB at h
    unfold stepOp
    dsimp only at h ⊢
    split at h
    · rename_i h2
      simp only [h2]
      exact hQ _ _ h
    · cases h
  | recover => cases h
  | nextMap x => exact nextB_im hK h
  | _ => first | exact plainB_im hK h | exact hK _ _ h | cases h

theorem opsNB_im {C : BVT} {C' : CVT} (hC : CVIm C C') {cx : Cx} {Q : X → St → Bool} {Q' : X → St → Prop} (hQ : Im Q Q') :
    ∀ (l : List AOper) (st : St), opsNB C cx l st Q = true → opsN C' cx l st Q'
  | [], st, h => hQ _ _ h
  | o :: r, st, h => by
    unfold opsNB at h
    unfold opsN
    split at h
    · cases h
    · rename_i hw
      simp only [hw]
      exact opsNB_im hC hQ r _ h
    · rename_i hw
      simp only [hw]
      exact stepB_im hC (fun v st' hv => opsNB_im hC hQ r _ hv) hQ h

theorem opsDB_im {C : BVT} {C' : CVT} (hC : CVIm C C') {cx : Cx} {all : List (Nat × AOper)} {Q : X → St → Bool} {Q' : X → St → Prop} (hQ : Im Q Q') :
    ∀ (l : List (Nat × AOper)) (rs : List Rec) (st : St), opsDB C cx all l rs st Q = true → opsD C' cx all l rs st Q'
  | [], rs, st, h => hQ _ _ h
  | o :: r, rs, st, h => by
    unfold opsDB at h
    unfold opsD
    split at h
    · cases h
    · rename_i hw
      simp only [hw]
      exact opsDB_im hC hQ r _ _ h
    · rename_i hw
      simp only [hw]
      split at h
      · rename_i he
        simp only [he, if_true]
        refine stepB_im hC ?_ ?_ h
        · intro v st' hv
          rw [Bool.and_eq_true] at hv
          exact ⟨hv.1, opsDB_im hC hQ r _ _ hv.2⟩
        · intro x st' hx
          exact hQ _ _ hx
      · rename_i he
        simp only [he, Bool.false_eq_true, if_false]
        split at h
        · cases h
        · rename_i hop
          simp only [hop]
          exact opsDB_im hC hQ r _ _ h

def EIm (S : Evs) (S' : Sems) : Prop := CodeIm S.code S'.code ∧ FrIm S.frame S'.frame

theorem callFB_im {E : EEnv} {S : Evs} {S' : Sems} (hS : EIm S S') {f : FuncId} {args : List V} {h : H} {R : Ret → H → Bool} {R' : Ret → H → Prop} (hR : Im R R')
    (hc : callFB E S f args h R = true) : callF E.env S' f args h R' := by
  unfold callFB at hc
  unfold callF EEnv.env
  dsimp only
  cases hx : E.xt f with
  | some g =>
    simp only [hx] at hc ⊢
    simp only [Option.map_some]
    split at hc
    · rename_i r h' hg
      exact ⟨r, h', hg, hR _ _ hc⟩
    · cases hc
  | none =>
    simp only [hx] at hc ⊢
    simp only [Option.map_none]
    split at hc
    · rename_i fn hf
      rw [Bool.and_eq_true] at hc
      refine ⟨?_, hS.2 _ _ _ _ _ _ ?_ hc.2⟩
      · rw [hf]; simpa using hc.1
      · intro r got h' hr
        exact hR _ _ hr
    · cases hc

theorem roundEnd_im {l : Nat} {y : X} {h : H} {R : Ret → H → Bool} {R' : Ret → H → Prop} (hR : Im R R') : roundEnd l y h R = true →
    (match y, h.get l with
      | .nrm, some (.loop .busy none f2 l2 p2 a2 b2) => R' (.ret (.bool true)) (h.set l (.loop .ready none f2 l2 p2 a2 b2))
      | .ret, some (.loop .busy none f2 l2 p2 a2 b2) => R' (.ret (.bool false)) (h.set l (.loop .done (some .ret) f2 l2 p2 a2 b2))
      | .exit id, some (.loop .busy none f2 l2 p2 a2 b2) => R' (.ret (.bool false)) (h.set l (.loop .done (some (.exit id)) f2 l2 p2 a2 b2))
      | _, _ => False) := by
  intro hc
  unfold roundEnd at hc
  generalize h.get l = o at hc ⊢
  split at hc
  · exact hR _ _ hc
  · exact hR _ _ hc
  · exact hR _ _ hc
  · cases hc

theorem roundB_im {S : Evs} {S' : Sems} (hS : EIm S S') {l : Nat} {args : List V} {h : H} {R : Ret → H → Bool} {R' : Ret → H → Prop} (hR : Im R R')
    (hc : roundB S l args h R = true) : roundF S' l args h R' := by
  unfold roundB at hc
  unfold roundF
  split at hc
  · rename_i h1
    simp only [h1]
    rw [Bool.and_eq_true] at hc
    have hl : args.length = _ := Nat.eq_of_beq_eq_true hc.1
    rw [if_pos hl]
    refine hS.1 _ _ _ _ _ ?_ hc.2
    intro x st1 hx
    cases x with
    | nrm =>
      dsimp only at hx ⊢
      split at hx
      · rename_i h2
        simp only [h2]
        refine hS.1 _ _ _ _ _ ?_ hx
        intro y st2 hy
        exact roundEnd_im hR hy
      · cases hx
    | exit i => cases hx
    | ret => cases hx
    | pan v => cases hx
  · cases hc

theorem callB_im {E : EEnv} {S : Evs} {S' : Sems} (hS : EIm S S') : CVIm (callB E S) (callV E.env S') := by
  intro f a h R R' hR hc
  unfold callB at hc
  unfold callV
  split at hc
  · show callF E.env S' _ (_ ++ a ++ _) h R'
    rw [List.append_assoc]
    exact callFB_im hS hR hc
  · exact roundB_im hS hR hc
  · cases hc

theorem codeB_im {E : EEnv} {S : Evs} {S' : Sems} (hS : EIm S S') : CodeIm (codeB E S) (codeF E.env S') := by
  intro cx c st Q Q' hQ hc
  unfold codeB at hc
  unfold codeF
  cases c with
  | skip => exact hQ _ _ hc
  | region ops => exact opsNB_im (callB_im hS) hQ _ _ hc
  | draw ops => exact opsDB_im (callB_im hS) hQ _ _ _ hc
  | seq a b =>
    refine hS.1 _ _ _ _ _ ?_ hc
    intro x st' hx
    cases x with
    | nrm => exact hS.1 _ _ _ _ _ hQ hx
    | exit i => exact hQ _ _ hx
    | ret => exact hQ _ _ hx
    | pan v => exact hQ _ _ hx
  | cond c a b =>
    dsimp only at hc ⊢
    split at hc
    · rename_i h1; simp only [h1, if_true]; exact hS.1 _ _ _ _ _ hQ hc
    · rename_i h1; simp only [h1, Bool.false_eq_true, if_false]; exact hS.1 _ _ _ _ _ hQ hc
    · cases hc
  | block id b =>
    refine hS.1 _ _ _ _ _ ?_ hc
    intro x st' hx
    cases x with
    | nrm => exact hQ _ _ hx
    | exit i =>
      dsimp only at hx ⊢
      split at hx
      · rename_i h1
        rw [if_pos (Nat.eq_of_beq_eq_true h1)]
        exact hQ _ _ hx
      · rename_i h1
        rw [if_neg (Nat.ne_of_beq_eq_false h1)]
        exact hQ _ _ hx
    | ret => exact hQ _ _ hx
    | pan v => exact hQ _ _ hx
  | loop b =>
    refine hS.1 _ _ _ _ _ ?_ hc
    intro x st' hx
    cases x with
    | nrm => exact hS.1 _ _ _ _ _ hQ hx
    | exit i => exact hQ _ _ hx
    | ret => exact hQ _ _ hx
    | pan v => exact hQ _ _ hx
  | rfun g ps assign body =>
    dsimp only at hc ⊢
    rw [Bool.and_eq_true, Bool.and_eq_true] at hc
    obtain ⟨h1, h2, h3⟩ := hc
    refine ⟨?_, h2, callB_im hS _ _ _ _ _ ?_ h3⟩
    · unfold roundOKB at h1
      unfold roundOK
      split at h1
      · rename_i e; simp only [e]
      · rename_i e; simp only [e]
        split at h1
        · rename_i e2; simp only [e2]
        · cases h1
    · intro r h' hr
      unfold rfunEnd at hr
      cases r with
      | pan v => cases hr
      | ret v =>
        dsimp only at hr ⊢
        split at hr
        · rename_i e; simp only [e]
          split at hr
          · cases hr
          · rename_i hb
            split
            · exact absurd rfl hb
            · exact hQ _ _ hr
            · rename_i e3; cases e3
          · rename_i hb
            split
            · exact absurd rfl hb
            · rename_i e3; cases e3
            · rename_i e3; cases e3; exact hQ _ _ hr
        · cases hr
  | exit id => exact hQ _ _ hc
  | ret => exact hQ _ _ hc
  | refuse => cases hc

theorem leaveB_im {S : Evs} {S' : Sems} (hS : EIm S S') {fn : AFunc} {loc : List V} {R : Ret → H → Bool} {R' : Ret → H → Prop} (hR : Im R R') :
    ∀ (ds : List (V × List V)) (pan : Option V) (h : H), leaveB S fn loc R ds pan h = true → leaveF S' fn loc R' ds pan h
  | [], some v, h, hc => hR _ _ hc
  | [], none, h, hc => by
    unfold leaveB at hc
    unfold leaveF
    split at hc
    · rename_i e; simp only [e]; exact hR _ _ hc
    · cases hc
  | (f, args) :: ds, pan, h, hc => by
    cases f with
    | fn g a b =>
      cases g with
      | func g =>
        unfold leaveB at hc
        unfold leaveF
        refine hS.2 _ _ _ _ _ _ ?_ hc
        intro r got h' hr
        cases r with
        | ret v => exact leaveB_im hS hR ds _ _ hr
        | pan v => cases hr
      | _ => unfold leaveB at hc; cases hc
    | _ => unfold leaveB at hc; cases hc

theorem frameB_im {E : EEnv} {S : Evs} {S' : Sems} (hS : EIm S S') : FrIm (frameB E S) (frameF E.env S') := by
  intro f args pd h R R' hR hc
  unfold frameB at hc
  unfold frameF EEnv.env
  dsimp only
  cases hf : E.ft f with
  | none => rw [hf] at hc; cases hc
  | some fn =>
    rw [hf] at hc
    dsimp only at hc ⊢
    rw [Bool.and_eq_true] at hc
    refine ⟨Nat.eq_of_beq_eq_true hc.1, hS.1 _ _ _ _ _ ?_ hc.2⟩
    intro x st hx
    rw [Bool.and_eq_true] at hx
    have h0 : (pd.isSome = true → st.df = []) := by
      intro hp
      have := hx.1
      rw [hp] at this
      simpa using this
    refine ⟨h0, ?_⟩
    have hR' : Im (fun r h => R r (fn.rcv.isSome && (pd.getD none).isSome) h) (fun r h => R' r (fn.rcv.isSome && (pd.getD none).isSome) h) := fun r h hr => hR _ _ _ hr
    cases x with
    | nrm => exact leaveB_im hS hR' _ _ _ hx.2
    | ret => exact leaveB_im hS hR' _ _ _ hx.2
    | pan v => exact leaveB_im hS hR' _ _ _ hx.2
    | exit i => cases hx.2

theorem evs_im (E : EEnv) : ∀ k, EIm (evs E k) (sems E.env k)
  | 0 => ⟨fun _ _ _ _ _ _ h => (nomatch (show false = true from h)), fun _ _ _ _ _ _ _ h => (nomatch (show false = true from h))⟩
  | k + 1 => ⟨codeB_im (evs_im E k), frameB_im (evs_im E k)⟩

end Go.Abs
