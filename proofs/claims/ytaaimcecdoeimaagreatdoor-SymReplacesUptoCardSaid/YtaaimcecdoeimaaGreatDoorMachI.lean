/-
  The yes/no twin, laid out for the kernel: short alternatives, plain recursors.
-/
import Derived.Test.YtaaimcecdoeimaaGreatDoorMachH
namespace Go.Abs

noncomputable def Tr.getF {α : Type} (t : Tr α) : Nat → Option α :=
  Tr.rec (motive := fun _ => Nat → Option α) (fun _ => none)
    (fun v _ _ il ir n => Nat.rec (motive := fun _ => Option α) v (fun _ _ => Bool.rec (motive := fun _ => Option α) (ir (n / 2)) (il (n / 2 - 1)) (Nat.beq (n % 2) 0)) n) t
noncomputable def Tr.setF {α : Type} (x : α) (t : Tr α) : Nat → Tr α :=
  Tr.rec (motive := fun _ => Nat → Tr α) (fun n => Tr.single (n + 1) n x)
    (fun v l r il ir n => Nat.rec (motive := fun _ => Tr α) (.node (some x) l r) (fun _ _ => Bool.rec (motive := fun _ => Tr α) (.node v l (ir (n / 2))) (.node v (il (n / 2 - 1)) r) (Nat.beq (n % 2) 0)) n) t

theorem Tr.getF_eq {α : Type} : ∀ (t : Tr α) (n : Nat), t.getF n = t.get n
  | .leaf, _ => rfl
  | .node v l r, 0 => rfl
  | .node v l r, n + 1 => by
    show Bool.rec (motive := fun _ => Option α) (r.getF ((n + 1) / 2)) (l.getF ((n + 1) / 2 - 1)) (Nat.beq ((n + 1) % 2) 0) = _
    rw [Tr.get, if_neg (Nat.succ_ne_zero n)]
    by_cases h : (n + 1) % 2 = 0
    · rw [if_pos h, h]; exact Tr.getF_eq l _
    · rw [if_neg h]
      have : Nat.beq ((n + 1) % 2) 0 = false := Bool.eq_false_iff.2 fun e => h (Nat.eq_of_beq_eq_true e)
      rw [this]; exact Tr.getF_eq r _
theorem Tr.setF_eq {α : Type} (x : α) : ∀ (t : Tr α) (n : Nat), t.setF x n = t.set n x
  | .leaf, _ => rfl
  | .node v l r, 0 => rfl
  | .node v l r, n + 1 => by
    show Bool.rec (motive := fun _ => Tr α) (.node v l (r.setF x ((n + 1) / 2))) (.node v (l.setF x ((n + 1) / 2 - 1)) r) (Nat.beq ((n + 1) % 2) 0) = _
    rw [Tr.set, if_neg (Nat.succ_ne_zero n)]
    by_cases h : (n + 1) % 2 = 0
    · rw [if_pos h, h]; show Tr.node v _ r = _; rw [Tr.setF_eq x l]
    · rw [if_neg h]
      have : Nat.beq ((n + 1) % 2) 0 = false := Bool.eq_false_iff.2 fun e => h (Nat.eq_of_beq_eq_true e)
      rw [this]; show Tr.node v l _ = _; rw [Tr.setF_eq x r]

noncomputable def H.getF (h : H) (b : Nat) : Option O := H.rec (motive := fun _ => Option O) (fun t _ => t.getF b) h
noncomputable def H.setF (h : H) (b : Nat) (o : O) : H := H.rec (motive := fun _ => H) (fun t n => ⟨t.setF o b, n⟩) h
noncomputable def H.pushF (h : H) (o : O) : H := H.rec (motive := fun _ => H) (fun t n => ⟨t.setF o n, n + 1⟩) h
theorem H.getF_eq (h : H) (b : Nat) : h.getF b = h.get b := Tr.getF_eq h.t b
theorem H.setF_eq (h : H) (b : Nat) (o : O) : h.setF b o = h.set b o := by show H.mk _ _ = _; rw [Tr.setF_eq]; rfl
theorem H.pushF_eq (h : H) (o : O) : h.pushF o = h.push o := by show H.mk _ _ = _; rw [Tr.setF_eq]; rfl
noncomputable def H.rdF (h : H) (b o n : Nat) : Option (List V) :=
  match h.getF b with
  | some (.cells c) => (match Nat.ble (o + n) c.length with
    | true => some ((c.drop o).take n)
    | false => none)
  | some (.rcells c) => (match Nat.ble (o + n) c.length with
    | true => some ((c.drop o).take n)
    | false => none)
  | _ => none
noncomputable def H.rdcF (h : H) (b o n : Nat) : Option (List V) :=
  match h.getF b with
  | some (.cells c) => (match Nat.ble (o + n) c.length with
    | true => some ((c.drop o).take n)
    | false => none)
  | _ => none
noncomputable def H.wrF (h : H) (b o : Nat) (vs : List V) : Option H :=
  match h.getF b with
  | some (.cells c) => (match Nat.ble (o + vs.length) c.length with
    | true => some (h.setF b (.cells (c.take o ++ (vs ++ c.drop (o + vs.length)))))
    | false => none)
  | _ => none
theorem ble_split {α : Type} (a b : Nat) (x y : α) : (match Nat.ble a b with | true => x | false => y) = if a ≤ b then x else y := by
  by_cases h : a ≤ b
  · rw [if_pos h, Nat.ble_eq_true_of_le h]
  · rw [if_neg h]
    have : Nat.ble a b = false := Bool.eq_false_iff.2 fun e => h (Nat.le_of_ble_eq_true e)
    rw [this]
theorem H.rdF_eq (h : H) (b o n : Nat) : h.rdF b o n = h.rd b o n := by
  unfold H.rdF H.rd; rw [H.getF_eq]
  simp only [ble_split]; rfl
theorem H.rdcF_eq (h : H) (b o n : Nat) : h.rdcF b o n = h.rdc b o n := by
  unfold H.rdcF H.rdc; rw [H.getF_eq]
  simp only [ble_split]; rfl
theorem H.wrF_eq (h : H) (b o : Nat) (vs : List V) : h.wrF b o vs = h.wr b o vs := by
  unfold H.wrF H.wr; rw [H.getF_eq]
  simp only [ble_split, H.setF_eq]; rfl
noncomputable def srcOfF (h : H) (sz : Nat) : V → Option (Nat × List V)
  | .nils => some (0, [])
  | .sl b o n _ => (h.rdF b o (n * sz)).map (n, ·)
  | .str l => if sz = 1 then some (l.length, l.map fun c => .int .u8 c.toNat) else none
  | _ => none
theorem srcOfF_eq (h : H) (sz : Nat) (v : V) : srcOfF h sz v = srcOf h sz v := by
  unfold srcOfF srcOf; simp only [H.rdF_eq]; rfl
noncomputable def lenVF (h : H) : V → Option Nat
  | .str l => some l.length
  | .nils => some 0
  | .sl _ _ n _ => some n
  | .nilm => some 0
  | .map b => match h.getF b with
    | some (.map es _) => some es.length
    | o => (um o).map (·.length)
  | _ => none
theorem lenVF_eq (h : H) (v : V) : lenVF h v = lenV h v := by
  unfold lenVF lenV; simp only [H.getF_eq]; rfl
noncomputable def appendVF (sz bytes : Nat) (s : V) (n : Nat) (cs : List V) (h : H) : Option (V × H) :=
  if n = 0 then
    (match s with
    | .nils | .sl .. => some (s, h)
    | _ => none)
  else if !cs.all V.cellOK then none else
  match s with
  | .nils => if roomOK n bytes then some (.sl h.next 0 n (.u sz), h.pushF (.cells cs)) else none
  | .sl b o len (.k c) =>
    if len + n ≤ c then (h.wrF b (o + len * sz) cs).map fun h' => (.sl b o (len + n) (.k c), h')
    else if !roomOK (len + n) bytes then none
    else match h.rdF b o (len * sz) with
      | some old => some (.sl h.next 0 (len + n) (.u sz), h.pushF (.cells (old ++ cs)))
      | none => none
  | .sl b o len (.u esz) =>
    if !roomOK (len + n) bytes || esz != sz then none else
    match h.rdcF b o (len * sz) with
    | some old => some (.sl h.next 0 (len + n) (.u sz), (h.setF b .dead).pushF (.cells (old ++ cs)))
    | none => none
  | _ => none
theorem appendVF_eq (sz bytes : Nat) (s : V) (n : Nat) (cs : List V) (h : H) : appendVF sz bytes s n cs h = appendV sz bytes s n cs h := by
  unfold appendVF appendV; simp only [H.rdF_eq, H.rdcF_eq, H.wrF_eq, H.pushF_eq, H.setF_eq]; rfl

noncomputable def ev_mv (x : A) (e : A → V) (h : H) : Option (V × H) := some (e x, h)

noncomputable def ev_pick (c : A) (a : A) (b : A) (e : A → V) (h : H) : Option (V × H) := match e c with
    | .bool t => some (if t then e a else e b, h)
    | _ => none

noncomputable def ev_alloc (z : List V) (_e : A → V) (h : H) : Option (V × H) := some (.ptr h.next 0, h.pushF (.cells z))

noncomputable def ev_box (x : A) (e : A → V) (h : H) : Option (V × H) := (e x).parts.map fun p => (.ptr h.next 0, h.pushF (.cells p))

noncomputable def ev_build (z : List V) (ps : List (Nat × Nat × A)) (e : A → V) (h : H) : Option (V × H) := (fill e z ps).map fun c => (.agg c, h)

noncomputable def ev_bslice (z : List V) (sz : Nat) (len : Nat) (ps : List (Nat × Nat × A)) (e : A → V) (h : H) : Option (V × H) := if z.length = sz then (fill e (reps z len) ps).map fun c => (.sl h.next 0 len (.k len), h.pushF (.cells c)) else none

noncomputable def ev_load (agg : Bool) (n : Nat) (x : A) (e : A → V) (h : H) : Option (V × H) := match e x with
    | .ptr b o => if agg then (h.rdF b o n).map fun c => (.agg c, h) else
      (match h.rdF b o 1 with
      | some [v] => some (v, h)
      | _ => none)
    | _ => none

noncomputable def ev_store (n : Nat) (x : A) (v : A) (e : A → V) (h : H) : Option (V × H) := match e x, (e v).parts with
    | .ptr b o, some c => if c.length = n ∧ c.all V.cellOK = true then (h.wrF b o c).map fun h' => (.tup [], h') else none
    | _, _ => none

noncomputable def ev_nilck (x : A) (e : A → V) (h : H) : Option (V × H) := if nilckOK (e x) then some (e x, h) else none

noncomputable def ev_bin (op : BinOp) (x : A) (y : A) (e : A → V) (h : H) : Option (V × H) := (binV op (e x) (e y)).map (·, h)

noncomputable def ev_eq (neg : Bool) (d : EqD) (x : A) (y : A) (e : A → V) (h : H) : Option (V × H) := (eqD d (e x) (e y)).map fun t => (.bool (if neg then !t else t), h)

noncomputable def ev_eqnil (k : NK) (neg : Bool) (x : A) (y : A) (e : A → V) (h : H) : Option (V × H) := (eqNil k (e x) (e y)).map fun t => (.bool (if neg then !t else t), h)

noncomputable def ev_eqI (neg : Bool) (ts : List TypeId) (x : A) (y : A) (e : A → V) (h : H) : Option (V × H) := (eqIface ts (e x) (e y)).map fun t => (.bool (if neg then !t else t), h)

noncomputable def ev_un (op : UnOp) (x : A) (e : A → V) (h : H) : Option (V × H) := (unV op (e x)).map (·, h)

noncomputable def ev_cvInt (k : IntKind) (x : A) (e : A → V) (h : H) : Option (V × H) := match e x with
    | .int _ n => some (.int k (k.wrap n), h)
    | _ => none

noncomputable def ev_cvStr (x : A) (e : A → V) (h : H) : Option (V × H) := match e x with
    | .str l => some (.str l, h)
    | _ => none

noncomputable def ev_cvIntStr (x : A) (e : A → V) (h : H) : Option (V × H) := match e x with
    | .int _ n => some (.str (Utf8.encode n).data.toList, h)
    | _ => none

noncomputable def ev_cvBytes (x : A) (e : A → V) (h : H) : Option (V × H) := if isStrV (e x) then none else match srcOfF h 1 (e x) with
    | some (_, c) => (bytesOf c).map fun l => (.str l, h)
    | none => none

noncomputable def ev_cvToBytes (x : A) (e : A → V) (h : H) : Option (V × H) := match e x with
    | .str l => if l.length < 2 ^ 46 then some (.sl h.next 0 l.length (.u 1), h.pushF (.cells (l.map fun c => .int .u8 c.toNat))) else none
    | _ => none

noncomputable def ev_mkIface (t : TypeId) (x : A) (e : A → V) (h : H) : Option (V × H) := some (.iface t (e x), h)

noncomputable def ev_mkFn (f : Fn) (a : List A) (b : List A) (e : A → V) (h : H) : Option (V × H) := some (.fn f (a.map e) (b.map e), h)

noncomputable def ev_mkMap (r : Option A) (e : A → V) (h : H) : Option (V × H) := match r with
    | none => some (.map h.next, h.pushF (.map [] 0))
    | some a => match e a with
      | .int _ _ => some (.map h.next, h.pushF (.map [] 0))
      | _ => none

noncomputable def ev_mkSlice (z : List V) (bytes : Nat) (l : A) (c : A) (e : A → V) (h : H) : Option (V × H) := match natOf (e l), natOf (e c) with
    | some n, some m => if n ≤ m ∧ roomOK m bytes = true then some (.sl h.next 0 n (.k m), h.pushF (.cells (reps z m))) else none
    | _, _ => none

noncomputable def ev_slStr (x : A) (lo : Option A) (hi : Option A) (e : A → V) (h : H) : Option (V × H) := match e x with
    | .str l => match bndOf e 0 lo, bndOf e l.length hi with
      | some a, some b => if a ≤ b ∧ b ≤ l.length then some (.str ((l.drop a).take (b - a)), h) else none
      | _, _ => none
    | _ => none

noncomputable def ev_slSl (sz : Nat) (x : A) (lo : Option A) (hi : Option A) (mx : Option A) (e : A → V) (h : H) : Option (V × H) := match e x with
    | .nils => match bndOf e 0 lo, bndOf e 0 hi, bndOf e 0 mx with
      | some 0, some 0, some 0 => some (.nils, h)
      | _, _, _ => none
    | .sl b o len cap => match bndOf e 0 lo, bndOf e len hi with
      | some a, some z => match mx with
        | some mx => match natOf (e mx) with
          | some m => if a ≤ z ∧ z ≤ m ∧ m ≤ cap.least len then some (.sl b (o + a * sz) (z - a) (.k (m - a)), h) else none
          | none => none
        | none => if a ≤ z ∧ z ≤ cap.least len ∧ cap.fits sz = true then some (.sl b (o + a * sz) (z - a) (cap.less a), h) else none
      | _, _ => none
    | _ => none

noncomputable def ev_slArr (n : Nat) (sz : Nat) (x : A) (lo : Option A) (hi : Option A) (mx : Option A) (e : A → V) (h : H) : Option (V × H) := match e x with
    | .ptr b o => match bndOf e 0 lo, bndOf e n hi, bndOf e n mx with
      | some a, some z, some m => if a ≤ z ∧ z ≤ m ∧ m ≤ n then some (.sl b (o + a * sz) (z - a) (.k (m - a)), h) else none
      | _, _, _ => none
    | _ => none

noncomputable def ev_faddr (off : Nat) (x : A) (e : A → V) (h : H) : Option (V × H) := match e x with
    | .ptr b o => some (.ptr b (o + off), h)
    | _ => none

noncomputable def ev_field (off : Nat) (sz : Nat) (agg : Bool) (x : A) (e : A → V) (h : H) : Option (V × H) := match e x with
    | .agg l => if off + sz ≤ l.length then
        (if agg then some (.agg ((l.drop off).take sz), h) else (l[off]?).map (·, h)) else none
    | _ => none

noncomputable def ev_iaddr (sz : Nat) (x : A) (i : A) (e : A → V) (h : H) : Option (V × H) := match e x, e i with
    | .sl b o len _, .int _ n => if 0 ≤ n ∧ n < len then some (.ptr b (o + n.toNat * sz), h) else none
    | _, _ => none

noncomputable def ev_iaddrArr (len : Nat) (sz : Nat) (x : A) (i : A) (e : A → V) (h : H) : Option (V × H) := match e x, e i with
    | .ptr b o, .int _ n => if 0 ≤ n ∧ n < len then some (.ptr b (o + n.toNat * sz), h) else none
    | _, _ => none

noncomputable def ev_idxStr (x : A) (i : A) (e : A → V) (h : H) : Option (V × H) := match e x, e i with
    | .str l, .int _ n => if 0 ≤ n then (l[n.toNat]?).map fun c => (.int .u8 c.toNat, h) else none
    | _, _ => none

noncomputable def ev_idxArr (len : Nat) (sz : Nat) (agg : Bool) (x : A) (i : A) (e : A → V) (h : H) : Option (V × H) := match e x, e i with
    | .agg l, .int _ n => if 0 ≤ n ∧ n < len ∧ n.toNat * sz + sz ≤ l.length then
        (if agg then some (.agg ((l.drop (n.toNat * sz)).take sz), h) else (l[n.toNat * sz]?).map (·, h)) else none
    | _, _ => none

noncomputable def ev_lookup (d : EqD) (z : V) (m : A) (k : A) (ok : Bool) (e : A → V) (h : H) : Option (V × H) := if !keyOK d (e k) then none else
    let out (v : V) (t : Bool) : V × H := (if ok then .tup [v, .bool t] else v, h)
    match e m with
    | .nilm => some (out z false)
    | .map b => match h.getF b with
      | some (.map es _) => match findE d (e k) es 0 with
        | some (some (_, _, v, _)) => some (out v true)
        | some none => some (out z false)
        | none => none
      | o => match um o with
        | some es => (match findU d (e k) es with
          | some (some v) => some (out v true)
          | some none => some (out z false)
          | none => none)
        | none => none
    | _ => none

noncomputable def ev_mput (d : EqD) (m : A) (k : A) (v : A) (e : A → V) (h : H) : Option (V × H) := if !keyOK d (e k) then none else
    match e m with
    | .map b => match h.getF b with
      | some (.map es cl) => match findE d (e k) es 0 with
        | some (some (i, _, _, n)) => some (.tup [], h.setF b (.map (es.set i (e k, e v, n)) cl))
        | some none => some (.tup [], h.setF b (.map (es ++ [(e k, e v, cl)]) (cl + 1)))
        | none => none
      | o => match um o with
        | some es => (match findU d (e k) es with
          | some none => some (.tup [], h.setF b (.umap (es ++ [(e k, e v)])))
          | _ => none)
        | none => none
    | _ => none

noncomputable def ev_mentry (d : EqD) (z : V) (m : A) (k : A) (e : A → V) (h : H) : Option (V × H) := if !keyOK d (e k) then none else
    match e m with
    | .map b => match h.getF b with
      | some (.map es cl) => match findE d (e k) es 0 with
        | some (some (i, _, v, n)) => some (.tup [v, .int .i64 n], h.setF b (.map (es.set i (e k, v, n)) cl))
        | some none => some (.tup [z, .int .i64 cl], h.setF b (.map (es ++ [(e k, z, cl)]) (cl + 1)))
        | none => none
      | _ => none
    | _ => none

noncomputable def ev_mestore (m : A) (s : A) (v : A) (e : A → V) (h : H) : Option (V × H) := match e m, e s with
    | .map b, .int _ n => match h.getF b with
      | some (.map es cl) => match es.findIdx? (fun x => (x.2.2 : Int) == n) with
        | some i => match es[i]? with
          | some (k, _, n) => some (.tup [], h.setF b (.map (es.set i (k, e v, n)) cl))
          | none => none
        | none => none
      | _ => none
    | _, _ => none

noncomputable def ev_rngStr (x : A) (e : A → V) (h : H) : Option (V × H) := match e x with
    | .str l => some (.ptr h.next 0, h.pushF (.siter l 0))
    | _ => none

noncomputable def ev_rngMap (x : A) (e : A → V) (h : H) : Option (V × H) := match e x with
    | .nilm => some (.ptr h.next 0, h.pushF (.miter none 0 [] 0))
    | .map b => match h.getF b with
      | some (.map _ cl) => some (.ptr h.next 0, h.pushF (.miter (some b) cl [] cl))
      | _ => none
    | _ => none

noncomputable def ev_nextStr (x : A) (e : A → V) (h : H) : Option (V × H) := match e x with
    | .ptr b 0 => match h.getF b with
      | some (.siter s p) => if p < s.length then
          (match Utf8.decode ⟨s.toArray⟩ p with
           | (c, w) => some (.tup [.bool true, .int .i64 p, .int .i32 c], h.setF b (.siter s (p + w))))
        else some (.tup [.bool false], h)
      | _ => none
    | _ => none

noncomputable def ev_entry (x : A) (e : A → V) (h : H) : Option (V × H) := evEntry (e x) h

noncomputable def ev_tassert (x : A) (t : TypeId) (z : V) (e : A → V) (h : H) : Option (V × H) := match e x with
    | .nili => some (.tup [z, .bool false], h)
    | .iface u v => some (if u = t then .tup [v, .bool true] else .tup [z, .bool false], h)
    | _ => none

noncomputable def ev_extract (x : A) (i : Nat) (e : A → V) (h : H) : Option (V × H) := match e x with
    | .tup l => (l[i]?).map (·, h)
    | _ => none

noncomputable def ev_len (k : LK) (x : A) (e : A → V) (h : H) : Option (V × H) := if lkOK k (e x) then (lenVF h (e x)).map fun n : Nat => (.int .i64 n, h) else none

noncomputable def ev_capOf (x : A) (e : A → V) (h : H) : Option (V × H) := match e x with
    | .nils => some (.int .i64 0, h)
    | .sl _ _ _ (.k c) => some (.int .i64 c, h)
    | _ => none

noncomputable def ev_append (sz : Nat) (bytes : Nat) (s : A) (x : A) (e : A → V) (h : H) : Option (V × H) := match srcOfF h sz (e x) with
    | some (n, cs) => appendVF sz bytes (e s) n cs h
    | none => none

noncomputable def ev_copy (sz : Nat) (d : A) (s : A) (e : A → V) (h : H) : Option (V × H) := match e d, srcOfF h sz (e s) with
    | .nils, some _ => some (.int .i64 0, h)
    | .sl b o n _, some (m, cs) => let k := min m n
      let c := cs.take (k * sz)
      if c.all V.cellOK then (h.wrF b o c).map fun h' => (.int .i64 k, h') else none
    | _, _ => none

noncomputable def ev_minmax (mx : Bool) (xs : List A) (e : A → V) (h : H) : Option (V × H) := match xs.map e with
    | [] => none
    | v :: r => (foldV mx v r).map (·, h)

noncomputable def ev_clearSl (z : List V) (x : A) (e : A → V) (h : H) : Option (V × H) := match e x with
    | .nils => some (.tup [], h)
    | .sl b o n _ => if n = 0 then some (.tup [], h) else if z.all V.cellOK then (h.wrF b o (reps z n)).map fun h' => (.tup [], h') else none
    | _ => none

noncomputable def nthV (loc : List V) : Nat → V :=
  List.rec (motive := fun _ => Nat → V) (fun _ => .bad) (fun a _ ih n => Nat.rec (motive := fun _ => V) a (fun m _ => ih m) n) loc
theorem nthV_eq : ∀ (l : List V) (n : Nat), nthV l n = l.getD n .bad
  | [], _ => rfl
  | _ :: _, 0 => rfl
  | _ :: l, n + 1 => by show nthV l n = _; rw [nthV_eq l n]; simp
noncomputable def setV (v : V) (loc : List V) : Nat → List V :=
  List.rec (motive := fun _ => Nat → List V) (fun _ => []) (fun a as ih n => Nat.rec (motive := fun _ => List V) (v :: as) (fun m _ => a :: ih m) n) loc
theorem setV_eq (v : V) : ∀ (l : List V) (n : Nat), setV v l n = l.set n v
  | [], _ => rfl
  | _ :: _, 0 => rfl
  | a :: l, n + 1 => by show a :: setV v l n = _; rw [setV_eq v l n]; rfl
noncomputable def tgetF (tl : List (Nat × V)) (n : Nat) : V :=
  List.rec (motive := fun _ => V) .bad (fun p _ ih => Prod.rec (motive := fun _ => V) (fun s v => Bool.rec (motive := fun _ => V) ih v (Nat.beq s n)) p) tl
theorem tgetF_eq : ∀ (l : List (Nat × V)) (n : Nat), tgetF l n = tget l n
  | [], _ => rfl
  | (s, v) :: l, n => by
    show Bool.rec (motive := fun _ => V) (tgetF l n) v (Nat.beq s n) = _
    unfold tget
    by_cases h : s = n
    · rw [if_pos h, h, Nat.beq_refl]
    · have : Nat.beq s n = false := Bool.eq_false_iff.2 fun e => h (Nat.eq_of_beq_eq_true e)
      rw [if_neg h, this]; exact tgetF_eq l n
noncomputable def evAF (loc : List V) (tl : List (Nat × V)) (a : A) : V :=
  A.rec (motive := fun _ => V) (fun i => nthV loc i) (fun s => tgetF tl s) (fun v => v) (fun n => .ptr n 0) (fun n => .fn (.func n) [] []) a
theorem evAF_eq (loc : List V) (tl : List (Nat × V)) : evAF loc tl = evA loc tl := by
  funext a; cases a with
  | l i => exact nthV_eq loc i
  | t s => exact tgetF_eq tl s
  | c v => rfl
  | g n => rfl
  | f n => rfl

noncomputable def putF (st : St) (d : D) (v : V) : St :=
  St.rec (motive := fun _ => St) (fun loc tl df h => D.rec (motive := fun _ => St) (fun i => ⟨setV v loc i, tl, df, h⟩) (fun s => ⟨loc, (s, v) :: tl, df, h⟩) ⟨loc, tl, df, h⟩ d) st
theorem putF_eq (st : St) (d : D) (v : V) : putF st d v = st.put d v := by
  cases st; cases d with
  | l i => show St.mk (setV v _ i) _ _ _ = _; rw [setV_eq]; rfl
  | _ => rfl

abbrev OpB := BVT → Cx → St → (V → St → Bool) → (X → St → Bool) → Bool
noncomputable def plainK (f : (A → V) → H → Option (V × H)) : OpB := fun _ _ st K _ =>
  St.rec (motive := fun _ => Bool) (fun loc tl df h => Option.rec (motive := fun _ => Bool) false (fun p => Prod.rec (motive := fun _ => Bool) (fun v h' => K v ⟨loc, tl, df, h'⟩) p) (f (evAF loc tl) h)) st
noncomputable def callK (f : A) (args : List A) : OpB := fun CV _ st K Q =>
  St.rec (motive := fun _ => Bool) (fun loc tl df h => CV (evAF loc tl f) (args.map (evAF loc tl)) h fun r h' =>
    Ret.rec (motive := fun _ => Bool) (fun v => K v ⟨loc, tl, df, h'⟩) (fun v => Q (.pan v) ⟨loc, tl, df, h'⟩) r) st

/-- an operation's step -/
noncomputable def opD (op : AOp) : OpB :=
  AOp.rec (motive := fun _ => OpB)
    (fun x => plainK (ev_mv x))
    (fun c a b => plainK (ev_pick c a b))
    (fun z => plainK (ev_alloc z))
    (fun x => plainK (ev_box x))
    (fun z ps => plainK (ev_build z ps))
    (fun z sz len ps => plainK (ev_bslice z sz len ps))
    (fun agg n x => plainK (ev_load agg n x))
    (fun n x v => plainK (ev_store n x v))
    (fun x => plainK (ev_nilck x))
    (fun op x y => plainK (ev_bin op x y))
    (fun neg d x y => plainK (ev_eq neg d x y))
    (fun k neg x y => plainK (ev_eqnil k neg x y))
    (fun neg ts x y => plainK (ev_eqI neg ts x y))
    (fun op x => plainK (ev_un op x))
    (fun k x => plainK (ev_cvInt k x))
    (fun x => plainK (ev_cvStr x))
    (fun x => plainK (ev_cvIntStr x))
    (fun x => plainK (ev_cvBytes x))
    (fun x => plainK (ev_cvToBytes x))
    (fun t x => plainK (ev_mkIface t x))
    (fun f a b => plainK (ev_mkFn f a b))
    (fun r => plainK (ev_mkMap r))
    (fun z bytes l c => plainK (ev_mkSlice z bytes l c))
    (fun x lo hi => plainK (ev_slStr x lo hi))
    (fun sz x lo hi mx => plainK (ev_slSl sz x lo hi mx))
    (fun n sz x lo hi mx => plainK (ev_slArr n sz x lo hi mx))
    (fun off x => plainK (ev_faddr off x))
    (fun off sz agg x => plainK (ev_field off sz agg x))
    (fun sz x i => plainK (ev_iaddr sz x i))
    (fun len sz x i => plainK (ev_iaddrArr len sz x i))
    (fun x i => plainK (ev_idxStr x i))
    (fun len sz agg x i => plainK (ev_idxArr len sz agg x i))
    (fun d z m k ok => plainK (ev_lookup d z m k ok))
    (fun d m k v => plainK (ev_mput d m k v))
    (fun d z m k => plainK (ev_mentry d z m k))
    (fun m s v => plainK (ev_mestore m s v))
    (fun x => plainK (ev_rngStr x))
    (fun x => plainK (ev_rngMap x))
    (fun x => plainK (ev_nextStr x))
    (fun x => fun _ _ st K _ => nextB (evA st.loc st.tl x) st K)
    (fun x => plainK (ev_entry x))
    (fun x t z => plainK (ev_tassert x t z))
    (fun _ _ => plainK fun _ _ => none)
    (fun x i => plainK (ev_extract x i))
    (fun k x => plainK (ev_len k x))
    (fun x => plainK (ev_capOf x))
    (fun sz bytes s x => plainK (ev_append sz bytes s x))
    (fun sz d s => plainK (ev_copy sz d s))
    (fun mx xs => plainK (ev_minmax mx xs))
    (fun z x => plainK (ev_clearSl z x))
    (fun f args => callK f args)
    (fun f args => fun _ cx st K _ => deferB cx (evA st.loc st.tl f) (args.map (evA st.loc st.tl)) st K)
    (fun x => fun _ _ st _ Q => panicB (evA st.loc st.tl x) st Q)
    (fun _ _ _ _ _ => false)
    op

theorem plainK_eq {f : (A → V) → H → Option (V × H)} {op : AOp} (hf : ∀ e h, f e h = evOp op e h) (CV : BVT) (cx : Cx) (st : St) (K : V → St → Bool) (Q : X → St → Bool) :
    plainK f CV cx st K Q = plainB op st K := by
  cases st with
  | mk loc tl df h =>
    unfold plainK plainB
    show (Option.rec (motive := fun _ => Bool) false _ (f (evAF loc tl) h) : Bool) = _
    rw [evAF_eq, hf]
    cases evOp op (evA loc tl) h with
    | none => rfl
    | some p => rfl

theorem opD_eq (op : AOp) (CV : BVT) (cx : Cx) (st : St) (K : V → St → Bool) (Q : X → St → Bool) : opD op CV cx st K Q = stepB CV cx op st K Q := by
  cases op
  case call f args =>
    cases st with
    | mk loc tl df h =>
      show CV (evAF loc tl f) (args.map (evAF loc tl)) h _ = CV (evA loc tl f) (args.map (evA loc tl)) h _
      rw [evAF_eq]
      congr 1
      funext r h'
      cases r <;> rfl
  case defer => rfl
  case panic => rfl
  case recover => rfl
  case nextMap => rfl
  case tassertI x l => exact plainK_eq (f := fun _ _ => none) (op := .tassertI x l) (fun e h => rfl) CV cx st K Q
  case mv x => exact plainK_eq (f := ev_mv x) (op := .mv x) (fun e h => by simp only [ev_mv, evOp] <;> rfl) CV cx st K Q
  case pick c a b => exact plainK_eq (f := ev_pick c a b) (op := .pick c a b) (fun e h => by simp only [ev_pick, evOp] <;> rfl) CV cx st K Q
  case alloc z => exact plainK_eq (f := ev_alloc z) (op := .alloc z) (fun e h => by simp only [ev_alloc, evOp, H.pushF_eq] <;> rfl) CV cx st K Q
  case box x => exact plainK_eq (f := ev_box x) (op := .box x) (fun e h => by simp only [ev_box, evOp, H.pushF_eq] <;> rfl) CV cx st K Q
  case build z ps => exact plainK_eq (f := ev_build z ps) (op := .build z ps) (fun e h => by simp only [ev_build, evOp] <;> rfl) CV cx st K Q
  case bslice z sz len ps => exact plainK_eq (f := ev_bslice z sz len ps) (op := .bslice z sz len ps) (fun e h => by simp only [ev_bslice, evOp, H.pushF_eq] <;> rfl) CV cx st K Q
  case load agg n x => exact plainK_eq (f := ev_load agg n x) (op := .load agg n x) (fun e h => by simp only [ev_load, evOp, H.rdF_eq] <;> rfl) CV cx st K Q
  case store n x v => exact plainK_eq (f := ev_store n x v) (op := .store n x v) (fun e h => by simp only [ev_store, evOp, H.wrF_eq] <;> rfl) CV cx st K Q
  case nilck x => exact plainK_eq (f := ev_nilck x) (op := .nilck x) (fun e h => by simp only [ev_nilck, evOp] <;> rfl) CV cx st K Q
  case bin op x y => exact plainK_eq (f := ev_bin op x y) (op := .bin op x y) (fun e h => by simp only [ev_bin, evOp] <;> rfl) CV cx st K Q
  case eq neg d x y => exact plainK_eq (f := ev_eq neg d x y) (op := .eq neg d x y) (fun e h => by simp only [ev_eq, evOp] <;> rfl) CV cx st K Q
  case eqnil k neg x y => exact plainK_eq (f := ev_eqnil k neg x y) (op := .eqnil k neg x y) (fun e h => by simp only [ev_eqnil, evOp] <;> rfl) CV cx st K Q
  case eqI neg ts x y => exact plainK_eq (f := ev_eqI neg ts x y) (op := .eqI neg ts x y) (fun e h => by simp only [ev_eqI, evOp] <;> rfl) CV cx st K Q
  case un op x => exact plainK_eq (f := ev_un op x) (op := .un op x) (fun e h => by simp only [ev_un, evOp] <;> rfl) CV cx st K Q
  case cvInt k x => exact plainK_eq (f := ev_cvInt k x) (op := .cvInt k x) (fun e h => by simp only [ev_cvInt, evOp] <;> rfl) CV cx st K Q
  case cvStr x => exact plainK_eq (f := ev_cvStr x) (op := .cvStr x) (fun e h => by simp only [ev_cvStr, evOp] <;> rfl) CV cx st K Q
  case cvIntStr x => exact plainK_eq (f := ev_cvIntStr x) (op := .cvIntStr x) (fun e h => by simp only [ev_cvIntStr, evOp] <;> rfl) CV cx st K Q
  case cvBytes x => exact plainK_eq (f := ev_cvBytes x) (op := .cvBytes x) (fun e h => by simp only [ev_cvBytes, evOp, srcOfF_eq] <;> rfl) CV cx st K Q
  case cvToBytes x => exact plainK_eq (f := ev_cvToBytes x) (op := .cvToBytes x) (fun e h => by simp only [ev_cvToBytes, evOp, H.pushF_eq] <;> rfl) CV cx st K Q
  case mkIface t x => exact plainK_eq (f := ev_mkIface t x) (op := .mkIface t x) (fun e h => by simp only [ev_mkIface, evOp] <;> rfl) CV cx st K Q
  case mkFn f a b => exact plainK_eq (f := ev_mkFn f a b) (op := .mkFn f a b) (fun e h => by simp only [ev_mkFn, evOp] <;> rfl) CV cx st K Q
  case mkMap r => exact plainK_eq (f := ev_mkMap r) (op := .mkMap r) (fun e h => by simp only [ev_mkMap, evOp, H.pushF_eq] <;> rfl) CV cx st K Q
  case mkSlice z bytes l c => exact plainK_eq (f := ev_mkSlice z bytes l c) (op := .mkSlice z bytes l c) (fun e h => by simp only [ev_mkSlice, evOp, H.pushF_eq] <;> rfl) CV cx st K Q
  case slStr x lo hi => exact plainK_eq (f := ev_slStr x lo hi) (op := .slStr x lo hi) (fun e h => by simp only [ev_slStr, evOp] <;> rfl) CV cx st K Q
  case slSl sz x lo hi mx => exact plainK_eq (f := ev_slSl sz x lo hi mx) (op := .slSl sz x lo hi mx) (fun e h => by simp only [ev_slSl, evOp] <;> rfl) CV cx st K Q
  case slArr n sz x lo hi mx => exact plainK_eq (f := ev_slArr n sz x lo hi mx) (op := .slArr n sz x lo hi mx) (fun e h => by simp only [ev_slArr, evOp] <;> rfl) CV cx st K Q
  case faddr off x => exact plainK_eq (f := ev_faddr off x) (op := .faddr off x) (fun e h => by simp only [ev_faddr, evOp] <;> rfl) CV cx st K Q
  case field off sz agg x => exact plainK_eq (f := ev_field off sz agg x) (op := .field off sz agg x) (fun e h => by simp only [ev_field, evOp] <;> rfl) CV cx st K Q
  case iaddr sz x i => exact plainK_eq (f := ev_iaddr sz x i) (op := .iaddr sz x i) (fun e h => by simp only [ev_iaddr, evOp] <;> rfl) CV cx st K Q
  case iaddrArr len sz x i => exact plainK_eq (f := ev_iaddrArr len sz x i) (op := .iaddrArr len sz x i) (fun e h => by simp only [ev_iaddrArr, evOp] <;> rfl) CV cx st K Q
  case idxStr x i => exact plainK_eq (f := ev_idxStr x i) (op := .idxStr x i) (fun e h => by simp only [ev_idxStr, evOp] <;> rfl) CV cx st K Q
  case idxArr len sz agg x i => exact plainK_eq (f := ev_idxArr len sz agg x i) (op := .idxArr len sz agg x i) (fun e h => by simp only [ev_idxArr, evOp] <;> rfl) CV cx st K Q
  case lookup d z m k ok => exact plainK_eq (f := ev_lookup d z m k ok) (op := .lookup d z m k ok) (fun e h => by simp only [ev_lookup, evOp, H.getF_eq] <;> rfl) CV cx st K Q
  case mput d m k v => exact plainK_eq (f := ev_mput d m k v) (op := .mput d m k v) (fun e h => by simp only [ev_mput, evOp, H.getF_eq, H.setF_eq] <;> rfl) CV cx st K Q
  case mentry d z m k => exact plainK_eq (f := ev_mentry d z m k) (op := .mentry d z m k) (fun e h => by simp only [ev_mentry, evOp, H.getF_eq, H.setF_eq] <;> rfl) CV cx st K Q
  case mestore m s v => exact plainK_eq (f := ev_mestore m s v) (op := .mestore m s v) (fun e h => by simp only [ev_mestore, evOp, H.getF_eq, H.setF_eq] <;> rfl) CV cx st K Q
  case rngStr x => exact plainK_eq (f := ev_rngStr x) (op := .rngStr x) (fun e h => by simp only [ev_rngStr, evOp, H.pushF_eq] <;> rfl) CV cx st K Q
  case rngMap x => exact plainK_eq (f := ev_rngMap x) (op := .rngMap x) (fun e h => by simp only [ev_rngMap, evOp, H.getF_eq, H.pushF_eq] <;> rfl) CV cx st K Q
  case nextStr x => exact plainK_eq (f := ev_nextStr x) (op := .nextStr x) (fun e h => by simp only [ev_nextStr, evOp, H.getF_eq, H.setF_eq] <;> rfl) CV cx st K Q
  case entry x => exact plainK_eq (f := ev_entry x) (op := .entry x) (fun e h => by simp only [ev_entry, evOp] <;> rfl) CV cx st K Q
  case tassert x t z => exact plainK_eq (f := ev_tassert x t z) (op := .tassert x t z) (fun e h => by simp only [ev_tassert, evOp] <;> rfl) CV cx st K Q
  case extract x i => exact plainK_eq (f := ev_extract x i) (op := .extract x i) (fun e h => by simp only [ev_extract, evOp] <;> rfl) CV cx st K Q
  case len k x => exact plainK_eq (f := ev_len k x) (op := .len k x) (fun e h => by simp only [ev_len, evOp, lenVF_eq] <;> rfl) CV cx st K Q
  case capOf x => exact plainK_eq (f := ev_capOf x) (op := .capOf x) (fun e h => by simp only [ev_capOf, evOp] <;> rfl) CV cx st K Q
  case append sz bytes s x => exact plainK_eq (f := ev_append sz bytes s x) (op := .append sz bytes s x) (fun e h => by simp only [ev_append, evOp, srcOfF_eq, appendVF_eq] <;> rfl) CV cx st K Q
  case copy sz d s => exact plainK_eq (f := ev_copy sz d s) (op := .copy sz d s) (fun e h => by simp only [ev_copy, evOp, H.wrF_eq, srcOfF_eq] <;> rfl) CV cx st K Q
  case minmax mx xs => exact plainK_eq (f := ev_minmax mx xs) (op := .minmax mx xs) (fun e h => by simp only [ev_minmax, evOp] <;> rfl) CV cx st K Q
  case clearSl z x => exact plainK_eq (f := ev_clearSl z x) (op := .clearSl z x) (fun e h => by simp only [ev_clearSl, evOp, H.wrF_eq] <;> rfl) CV cx st K Q

noncomputable def opsNF (CV : BVT) (cx : Cx) (l : List AOper) : St → (X → St → Bool) → Bool :=
  List.rec (motive := fun _ => St → (X → St → Bool) → Bool) (fun st Q => Q .nrm st)
    (fun o _ ih st Q => AOper.rec (motive := fun _ => Bool) (fun d op grd _ =>
      Option.rec (motive := fun _ => Bool) (opD op CV cx st (fun v st' => ih (putF st' d v) Q) Q)
        (fun g => match wantedA st (some g) with
          | none => false
          | some false => ih (putF st d (.tup [])) Q
          | some true => opD op CV cx st (fun v st' => ih (putF st' d v) Q) Q) grd) o) l

theorem opsNF_eq (CV : BVT) (cx : Cx) : ∀ (l : List AOper) (st : St) (Q : X → St → Bool), opsNF CV cx l st Q = opsNB CV cx l st Q
  | [], _, _ => rfl
  | ⟨d, op, grd, bf⟩ :: r, st, Q => by
    have ih : ∀ st Q, opsNF CV cx r st Q = opsNB CV cx r st Q := opsNF_eq CV cx r
    have hk : (fun (v : V) (st' : St) => opsNF CV cx r (putF st' d v) Q) = fun v st' => opsNB CV cx r (st'.put d v) Q := by
      funext v st'; rw [putF_eq, ih]
    unfold opsNB
    dsimp only
    cases grd with
    | none =>
      show opD op CV cx st (fun v st' => opsNF CV cx r (putF st' d v) Q) Q = _
      rw [hk, opD_eq]; rfl
    | some g =>
      show (match wantedA st (some g) with
          | none => false
          | some false => opsNF CV cx r (putF st d (.tup [])) Q
          | some true => opD op CV cx st (fun v st' => opsNF CV cx r (putF st' d v) Q) Q) = _
      rw [hk, opD_eq, putF_eq, ih]; rfl

noncomputable def readF (op : AOp) (i : Nat) (loc : List V) (tl : List (Nat × V)) (v : V) (rs : List Rec) : List Rec :=
  match isRead op with
  | true => ⟨i, op, loc, tl, v⟩ :: rs
  | false => rs

/-- what an operation without effect gives -/
noncomputable def valD (op : AOp) (st : St) (K : V → St → Bool) : Bool := opD op (fun _ _ _ _ => false) ⟨0, none⟩ st K fun _ _ => false

theorem valD_eq {op : AOp} (he : isEff op = false) (st : St) (K : V → St → Bool) : valD op st K = plainB op st K := by
  unfold valD
  rw [opD_eq]
  cases op <;> first | rfl | cases he

noncomputable def opsDF (CV : BVT) (cx : Cx) (all : List (Nat × AOper)) (l : List (Nat × AOper)) : List Rec → St → (X → St → Bool) → Bool :=
  List.rec (motive := fun _ => List Rec → St → (X → St → Bool) → Bool) (fun _ st Q => Q .nrm st)
    (fun o _ ih rs st Q => Prod.rec (motive := fun _ => Bool) (fun i o => AOper.rec (motive := fun _ => Bool) (fun d op grd bf =>
      match wantedA st grd with
      | none => false
      | some false => ih rs (putF st d (.tup [])) Q
      | some true =>
        match isEff op with
        | true => opD op CV cx st
            (fun v st' => (rs.all fun q => bf.testBit q.i || q.again st'.h) && ih rs (putF st' d v) Q)
            (fun x st' => Q x { st' with loc := forget st.loc all, tl := [] })
        | false => valD op st (fun v st' => ih (readF op i st.loc st.tl v rs) (putF st' d v) Q)) o) o) l

theorem opsDF_eq (CV : BVT) (cx : Cx) (all : List (Nat × AOper)) : ∀ (l : List (Nat × AOper)) (rs : List Rec) (st : St) (Q : X → St → Bool), opsDF CV cx all l rs st Q = opsDB CV cx all l rs st Q
  | [], _, _, _ => rfl
  | (i, ⟨d, op, grd, bf⟩) :: r, rs, st, Q => by
    have ih : ∀ rs st Q, opsDF CV cx all r rs st Q = opsDB CV cx all r rs st Q := opsDF_eq CV cx all r
    unfold opsDB
    show (match wantedA st grd with
      | none => false
      | some false => opsDF CV cx all r rs (putF st d (.tup [])) Q
      | some true =>
        match isEff op with
        | true => opD op CV cx st
            (fun v st' => (rs.all fun q => bf.testBit q.i || q.again st'.h) && opsDF CV cx all r rs (putF st' d v) Q)
            (fun x st' => Q x { st' with loc := forget st.loc all, tl := [] })
        | false => valD op st (fun v st' => opsDF CV cx all r (readF op i st.loc st.tl v rs) (putF st' d v) Q)) = _
    dsimp only
    split
    · rename_i hw; simp only [hw]
    · rename_i hw; simp only [hw]; rw [putF_eq, ih]
    · rename_i hw; simp only [hw]
      split
      · rename_i he
        simp only [he]
        rw [opD_eq]
        congr 1
        funext v st'
        rw [putF_eq, ih]
      · rename_i he
        simp only [he]
        rw [valD_eq he]
        unfold plainB
        cases evOp op (evA st.loc st.tl) st.h with
        | none => rfl
        | some p =>
          show opsDF CV cx all r _ (putF _ d p.1) Q = opsDB CV cx all r _ _ Q
          rw [putF_eq, ih]
          congr 1
          unfold readF
          cases isRead op <;> rfl

noncomputable def callD (f : V) : EEnv → Evs → List V → H → (Ret → H → Bool) → Bool :=
  match f with
  | .fn (.func g) a b => fun E S args h R => callFB E S g (a ++ (args ++ b)) h R
  | .fn (.yield l) a _ => fun _ S args h R => roundB S l (a ++ args) h R
  | _ => fun _ _ _ _ _ => false
theorem callD_eq (E : EEnv) (S : Evs) : (fun f => callD f E S) = callB E S := by
  funext f args h R
  cases f with
  | fn g a b => cases g <;> rfl
  | _ => rfl

noncomputable def codeD (c : ACode) : EEnv → Evs → Cx → St → (X → St → Bool) → Bool :=
  match c with
  | .skip => fun _ _ _ st Q => Q .nrm st
  | .region ops => fun E S cx st Q => St.rec (motive := fun _ => Bool) (fun loc _ df h => opsNF (fun f => callD f E S) cx ops ⟨loc, [], df, h⟩ Q) st
  | .draw ops => fun E S cx st Q => St.rec (motive := fun _ => Bool) (fun loc _ df h => opsDF (fun f => callD f E S) cx ops ops [] ⟨loc, [], df, h⟩ Q) st
  | .seq a b => fun _ S cx st Q => S.code cx a st fun x st' => X.rec (motive := fun _ => Bool) (S.code cx b st' Q) (fun i => Q (.exit i) st') (Q .ret st') (fun v => Q (.pan v) st') x
  | .cond c a b => fun _ S cx st Q => St.rec (motive := fun _ => Bool) (fun loc tl df h => match evAF loc tl c with
    | .bool true => S.code cx a ⟨loc, [], df, h⟩ Q
    | .bool false => S.code cx b ⟨loc, [], df, h⟩ Q
    | _ => false) st
  | .block id b => fun _ S cx st Q => S.code cx b st fun x st' =>
      match x with
      | .exit i => (match Nat.beq i id with
        | true => St.rec (motive := fun _ => Bool) (fun loc _ df h => Q .nrm ⟨loc, [], df, h⟩) st'
        | false => Q (.exit i) st')
      | x => Q x st'
  | .loop b => fun _ S cx st Q => St.rec (motive := fun _ => Bool) (fun loc _ df h => S.code cx b ⟨loc, [], df, h⟩ fun x st' =>
      X.rec (motive := fun _ => Bool) (S.code cx (.loop b) st' Q) (fun i => Q (.exit i) st') (Q .ret st') (fun v => Q (.pan v) st') x) st
  | .rfun g ps assign body => fun E S cx st Q =>
    St.rec (motive := fun _ => Bool) (fun loc tl df h => H.rec (motive := fun _ => Bool) (fun t n =>
    roundOKB cx ⟨t, n⟩ && (isFuncV (evAF loc tl g) &&
    callD (evAF loc tl g) E S [.fn (.yield n) [] []] (H.pushF ⟨t, n⟩ (.loop .ready none cx.fn loc ps assign body)) fun r h' =>
      rfunEnd n ⟨loc, tl, df, ⟨t, n⟩⟩ r h' Q)) h) st
  | .exit id => fun _ _ _ st Q => Q (.exit id) st
  | .ret => fun _ _ _ st Q => Q .ret st
  | .refuse => fun _ _ _ _ _ => false

theorem codeD_eq (E : EEnv) (S : Evs) : (fun cx c st Q => codeD c E S cx st Q) = codeB E S := by
  funext cx c st Q
  cases st with
  | mk loc tl df h =>
  cases c with
  | skip => rfl
  | region ops =>
    show opsNF (fun f => callD f E S) cx ops ⟨loc, [], df, h⟩ Q = opsNB (callB E S) cx ops ⟨loc, [], df, h⟩ Q
    rw [opsNF_eq, callD_eq]
  | draw ops =>
    show opsDF (fun f => callD f E S) cx ops ops [] ⟨loc, [], df, h⟩ Q = opsDB (callB E S) cx ops ops [] ⟨loc, [], df, h⟩ Q
    rw [opsDF_eq, callD_eq]
  | seq a b =>
    show S.code cx a _ _ = S.code cx a _ _
    congr 1
    funext x st'
    cases x <;> rfl
  | cond c a b =>
    show (match evAF loc tl c with
    | .bool true => S.code cx a ⟨loc, [], df, h⟩ Q
    | .bool false => S.code cx b ⟨loc, [], df, h⟩ Q
    | _ => false) = _
    rw [evAF_eq]; rfl
  | block id b =>
    show S.code cx b _ _ = S.code cx b _ _
    congr 1
  | loop b =>
    show S.code cx b _ _ = S.code cx b _ _
    congr 1
    funext x st'
    cases x <;> rfl
  | rfun g ps assign body =>
    cases h with
    | mk t n =>
    show (roundOKB cx ⟨t, n⟩ && (isFuncV (evAF loc tl g) && callD (evAF loc tl g) E S [.fn (.yield n) [] []] (H.pushF ⟨t, n⟩ (.loop .ready none cx.fn loc ps assign body)) _)) = (roundOKB cx ⟨t, n⟩ && (isFuncV (evA loc tl g) && callB E S (evA loc tl g) [.fn (.yield n) [] []] (H.push ⟨t, n⟩ (.loop .ready none cx.fn loc ps assign body)) _))
    rw [evAF_eq, H.pushF_eq, ← callD_eq]
  | exit id => rfl
  | ret => rfl
  | refuse => rfl

noncomputable def frameD (E : EEnv) (S : Evs) (f : FuncId) (args : List V) (pd : Option (Option V)) (h : H) (R : Ret → Bool → H → Bool) : Bool :=
  Option.rec (motive := fun _ => Bool) false (fun fn =>
    Nat.beq args.length fn.np &&
    S.code ⟨f, none⟩ fn.body (enterSt fn args (pd.getD none) h) fun x st =>
      (!pd.isSome || st.df.isEmpty) &&
      match x with
      | .nrm | .ret => leaveB S fn st.loc (fun r h => R r (fn.rcv.isSome && (pd.getD none).isSome) h) st.df none st.h
      | .pan v => leaveB S fn st.loc (fun r h => R r (fn.rcv.isSome && (pd.getD none).isSome) h) st.df (some v) st.h
      | .exit _ => false) (E.ft f)

theorem frameD_eq (E : EEnv) (S : Evs) : frameD E S = frameB E S := by
  funext f args pd h R
  unfold frameD frameB
  cases E.ft f with
  | none => rfl
  | some fn => rfl

noncomputable def evs2 (E : EEnv) (k : Nat) : Evs :=
  Nat.rec (motive := fun _ => Evs) ⟨fun _ _ _ _ => false, fun _ _ _ _ _ => false⟩ (fun _ S => ⟨fun cx c st Q => codeD c E S cx st Q, frameD E S⟩) k

theorem evs2_eq (E : EEnv) : ∀ k, evs2 E k = evs E k
  | 0 => rfl
  | k + 1 => by
    show Evs.mk (fun cx c st Q => codeD c E (evs2 E k) cx st Q) (frameD E (evs2 E k)) = Evs.mk (codeB E (evs E k)) (frameB E (evs E k))
    rw [evs2_eq E k, codeD_eq, frameD_eq]

theorem evs2_im (E : EEnv) (k : Nat) : EIm (evs2 E k) (sems E.env k) := evs2_eq E k ▸ evs_im E k

end Go.Abs
