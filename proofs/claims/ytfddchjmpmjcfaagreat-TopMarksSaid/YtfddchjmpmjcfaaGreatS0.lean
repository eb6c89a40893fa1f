/- Equations in the form in which simp reckons with the evaluator. No conditions. -/
import Derived.Test.YtfddchjmpmjcfaaGreatFwA
set_option linter.unusedVariables false
set_option linter.unusedSimpArgs false
namespace Go.Fw
open Go
variable {kp : Nat → Option KF}

theorem binV_add (k : IntKind) (a b : Int) : binV .add (.int k a) (.int k b) = some (.int k (k.wrap (a + b))) := by simp [binV, arith]
theorem binV_sub (k : IntKind) (a b : Int) : binV .sub (.int k a) (.int k b) = some (.int k (k.wrap (a - b))) := by simp [binV, arith]
theorem binV_mul (k : IntKind) (a b : Int) : binV .mul (.int k a) (.int k b) = some (.int k (k.wrap (a * b))) := by simp [binV, arith]
theorem binV_quo (k : IntKind) (a b : Int) : binV .quo (.int k a) (.int k b) = if b = 0 then none else some (.int k (k.wrap (a.tdiv b))) := by simp [binV, arith]
theorem binV_rem (k : IntKind) (a b : Int) : binV .rem (.int k a) (.int k b) = if b = 0 then none else some (.int k (a.tmod b)) := by simp [binV, arith]
theorem binV_and (k : IntKind) (a b : Int) : binV .and (.int k a) (.int k b) = some (.int k (bits .and k a b)) := by simp [binV, arith]
theorem binV_or (k : IntKind) (a b : Int) : binV .or (.int k a) (.int k b) = some (.int k (bits .or k a b)) := by simp [binV, arith]
theorem binV_xor (k : IntKind) (a b : Int) : binV .xor (.int k a) (.int k b) = some (.int k (bits .xor k a b)) := by simp [binV, arith]
theorem binV_andNot (k : IntKind) (a b : Int) : binV .andNot (.int k a) (.int k b) = some (.int k (bits .andNot k a b)) := by simp [binV, arith]
theorem binV_shl (k k' : IntKind) (a b : Int) : binV .shl (.int k a) (.int k' b) = if b < 0 then none else some (.int k (k.wrap (a * 2 ^ min b.toNat k.bits))) := by simp [binV, shiftV]
theorem binV_shr (k k' : IntKind) (a b : Int) : binV .shr (.int k a) (.int k' b) = if b < 0 then none else some (.int k (a / 2 ^ min b.toNat k.bits)) := by simp [binV, shiftV]
theorem binV_lss (k : IntKind) (a b : Int) : binV .lss (.int k a) (.int k b) = some (.bool (decide (a < b))) := by simp [binV, arith]
theorem binV_leq (k : IntKind) (a b : Int) : binV .leq (.int k a) (.int k b) = some (.bool (decide (a ≤ b))) := by simp [binV, arith]
theorem binV_gtr (k : IntKind) (a b : Int) : binV .gtr (.int k a) (.int k b) = some (.bool (decide (b < a))) := by simp [binV, arith]
theorem binV_geq (k : IntKind) (a b : Int) : binV .geq (.int k a) (.int k b) = some (.bool (decide (b ≤ a))) := by simp [binV, arith]
theorem binV_eql_int (k : IntKind) (a b : Int) : binV .eql (.int k a) (.int k b) = some (.bool (decide (a = b))) := by simp [binV, arith]
theorem binV_neq_int (k : IntKind) (a b : Int) : binV .neq (.int k a) (.int k b) = some (.bool (!decide (a = b))) := by simp [binV, arith]
theorem binV_eql_bool (a b : Bool) : binV .eql (.bool a) (.bool b) = some (.bool (a == b)) := by simp [binV, eqV]
theorem binV_neq_bool (a b : Bool) : binV .neq (.bool a) (.bool b) = some (.bool (!(a == b))) := by simp [binV, eqV]
theorem binV_eql_nil (x : V) : binV .eql x (.d (.sl true [])) = match isNil x with | some b => some (.bool b) | none => none := by cases x <;> rfl
theorem binV_neq_nil (x : V) : binV .neq x (.d (.sl true [])) = match isNil x with | some b => some (.bool (!b)) | none => none := by cases x <;> rfl
theorem unV_not (b : Bool) : unV .not (.bool b) = some (.bool (!b)) := rfl
theorem unV_neg (k : IntKind) (n : Int) : unV .neg (.int k n) = some (.int k (k.wrap (0 - n))) := rfl
theorem unV_xor (k : IntKind) (n : Int) : unV .xor (.int k n) = some (.int k (bits .xor k (if k.signed then -1 else k.max) n)) := rfl

/-! ### One operation -/
variable {r : List GI} {e : Env} {h : Hp} {t : Nat → Option Blk} {b n : Nat}
def gOf (h : Hp) (t : Nat → Option Blk) (x : Nat) : Option Blk := match hlook h x with | some b => some b | none => t x
theorem St.g_mk : St.g ⟨e, h, t, b, n⟩ = gOf h t := rfl
theorem o_mv (d : Nat) (x : Opd) : run kp (.ops (⟨none, .mv d x⟩ :: r) ⟨e, h, t, b, n⟩) = run kp (.ops r ⟨put e d (val e x), h, t, b, n⟩) := by rw [run_cons]; rfl
noncomputable def opK (kp : Nat → Option KF) (x : Option V) (d : Nat) (r : List GI) (e : Env) (h : Hp) (t : Nat → Option Blk) (b n : Nat) : Option Ans := match x with | some v => run kp (.ops r ⟨put e d v, h, t, b, n⟩) | none => none
theorem opK_some (v : V) (d : Nat) : opK kp (some v) d r e h t b n = run kp (.ops r ⟨put e d v, h, t, b, n⟩) := rfl
theorem opK_ite (c : Prop) [Decidable c] (x y : Option V) (d : Nat) : opK kp (if c then x else y) d r e h t b n = if c then opK kp x d r e h t b n else opK kp y d r e h t b n := by split <;> rfl
theorem opK_none (d : Nat) : opK kp none d r e h t b n = none := rfl
theorem o_bin (d : Nat) (op : BinOp) (x y : Opd) : run kp (.ops (⟨none, .bin d op x y⟩ :: r) ⟨e, h, t, b, n⟩) = opK kp (binV op (val e x) (val e y)) d r e h t b n := by
  rw [run_cons]
  show effK kp (eff (.bin d op x y) e _ n) _ r _ = _
  simp only [eff]
  cases binV op (val e x) (val e y) <;> rfl
theorem o_un (d : Nat) (op : UnOp) (x : Opd) : run kp (.ops (⟨none, .un d op x⟩ :: r) ⟨e, h, t, b, n⟩) = opK kp (unV op (val e x)) d r e h t b n := by
  rw [run_cons]
  show effK kp (eff (.un d op x) e _ n) _ r _ = _
  simp only [eff]
  cases unV op (val e x) <;> rfl
def pickV (c a b : V) : Option V := match c with | .bool c => some (if c then a else b) | _ => none
theorem pickV_bool (c : Bool) (a b : V) : pickV (.bool c) a b = some (if c then a else b) := rfl
theorem o_pick (d : Nat) (c x y : Opd) : run kp (.ops (⟨none, .pick d c x y⟩ :: r) ⟨e, h, t, b, n⟩) = opK kp (pickV (val e c) (val e x) (val e y)) d r e h t b n := by
  rw [run_cons]
  show effK kp (eff (.pick d c x y) e _ n) _ r _ = _
  simp only [eff, pickV]
  cases val e c <;> rfl
def cvV (k : IntKind) (x : V) : Option V := match x with | .int _ a => some (.int k (k.wrap a)) | _ => none
theorem cvV_int (k k' : IntKind) (a : Int) : cvV k (.int k' a) = some (.int k (k.wrap a)) := rfl
theorem o_cv (d : Nat) (k : IntKind) (x : Opd) : run kp (.ops (⟨none, .cv d k x⟩ :: r) ⟨e, h, t, b, n⟩) = opK kp (cvV k (val e x)) d r e h t b n := by
  rw [run_cons]
  show effK kp (eff (.cv d k x) e _ n) _ r _ = _
  simp only [eff, cvV]
  cases val e x <;> rfl
def lenOf (x : V) : Option V := match lenV x with | some a => some (.int .i64 a) | none => none
theorem o_len (d : Nat) (x : Opd) : run kp (.ops (⟨none, .len d x⟩ :: r) ⟨e, h, t, b, n⟩) = opK kp (lenOf (val e x)) d r e h t b n := by
  rw [run_cons]
  show effK kp (eff (.len d x) e _ n) _ r _ = _
  simp only [eff, lenOf]
  cases lenV (val e x) <;> rfl
theorem o_ld (d : Nat) (x : Opd) : run kp (.ops (⟨none, .ld d x⟩ :: r) ⟨e, h, t, b, n⟩) = opK kp (loadV (gOf h t) (val e x)) d r e h t b n := by
  rw [run_cons]
  show effK kp (eff (.ld d x) e _ n) _ r _ = _
  simp only [eff, St.g_mk]
  cases loadV (gOf h t) (val e x) <;> rfl
theorem o_fa (d : Nat) (x : Opd) (i : Nat) : run kp (.ops (⟨none, .fa d x i⟩ :: r) ⟨e, h, t, b, n⟩) = opK kp (fieldA (val e x) i) d r e h t b n := by
  rw [run_cons]
  show effK kp (eff (.fa d x i) e _ n) _ r _ = _
  simp only [eff]
  cases fieldA (val e x) i <;> rfl
theorem o_fd (d : Nat) (x : Opd) (i : Nat) : run kp (.ops (⟨none, .fd d x i⟩ :: r) ⟨e, h, t, b, n⟩) = opK kp (partV (val e x) i) d r e h t b n := by
  rw [run_cons]
  show effK kp (eff (.fd d x i) e _ n) _ r _ = _
  simp only [eff]
  cases partV (val e x) i <;> rfl
def iaV (g : Nat → Option Blk) (x i : V) : Option V := match i with | .int _ j => indexA g x j | _ => none
theorem iaV_int (g : Nat → Option Blk) (x : V) (k : IntKind) (j : Int) : iaV g x (.int k j) = indexA g x j := rfl
theorem o_ia (d : Nat) (x i : Opd) : run kp (.ops (⟨none, .ia d x i⟩ :: r) ⟨e, h, t, b, n⟩) = opK kp (iaV (gOf h t) (val e x) (val e i)) d r e h t b n := by
  rw [run_cons]
  show effK kp (eff (.ia d x i) e _ n) _ r _ = _
  simp only [eff, iaV, St.g_mk]
  cases val e i <;> first | rfl | skip
  rename_i k j
  simp only
  cases indexA (gOf h t) (val e x) j <;> rfl
def ixV (x i : V) : Option V := match i with | .int _ j => if 0 ≤ j then partV x j.toNat else none | _ => none
theorem ixV_int (x : V) (k : IntKind) (j : Int) : ixV x (.int k j) = if 0 ≤ j then partV x j.toNat else none := rfl
theorem o_ix (d : Nat) (x i : Opd) : run kp (.ops (⟨none, .ix d x i⟩ :: r) ⟨e, h, t, b, n⟩) = opK kp (ixV (val e x) (val e i)) d r e h t b n := by
  rw [run_cons]
  show effK kp (eff (.ix d x i) e _ n) _ r _ = _
  simp only [eff, ixV]
  cases val e i <;> first | rfl | skip
  rename_i k j
  simp only
  split
  · cases partV (val e x) j.toNat <;> rfl
  · rfl
def slcV (x : V) (lo hi : Option (Option Int)) : Option V := match lo, hi with | some l, some h => sliceV x l h | _, _ => none
theorem slcV_some (x : V) (lo hi : Option Int) : slcV x (some lo) (some hi) = sliceV x lo hi := rfl
theorem o_slc (d : Nat) (x : Opd) (lo hi : Option Opd) : run kp (.ops (⟨none, .slc d x lo hi⟩ :: r) ⟨e, h, t, b, n⟩) = opK kp (slcV (val e x) (optV e lo) (optV e hi)) d r e h t b n := by
  rw [run_cons]
  show effK kp (eff (.slc d x lo hi) e _ n) _ r _ = _
  simp only [eff, slcV]
  cases optV e lo <;> cases optV e hi <;> first | rfl | skip
  rename_i l h
  simp only
  cases sliceV (val e x) l h <;> rfl
def exV (x : V) (i : Nat) : Option V := match x with | .tup l => l[i]? | _ => none
theorem exV_tup (l : List V) (i : Nat) : exV (.tup l) i = l[i]? := rfl
theorem o_ex (d : Nat) (x : Opd) (i : Nat) : run kp (.ops (⟨none, .ex d x i⟩ :: r) ⟨e, h, t, b, n⟩) = opK kp (exV (val e x) i) d r e h t b n := by
  rw [run_cons]
  show effK kp (eff (.ex d x i) e _ n) _ r _ = _
  simp only [eff, exV]
  cases val e x <;> first | rfl | skip
  rename_i l
  simp only
  cases l[i]? <;> rfl
def bldV (e : Env) (xs : List Opd) : Option V := if anyUnd e xs then none else match V.pures? (xs.map (val e)) with | some l => some (.d (.agg l)) | none => some (.agg (xs.map (val e)))
theorem o_bld (d : Nat) (xs : List Opd) : run kp (.ops (⟨none, .bld d xs⟩ :: r) ⟨e, h, t, b, n⟩) = opK kp (bldV e xs) d r e h t b n := by
  rw [run_cons]
  show effK kp (eff (.bld d xs) e _ n) _ r _ = _
  simp only [eff, bldV]
  split
  · rfl
  · cases V.pures? (xs.map (val e)) <;> rfl
theorem o_mx (d : Nat) (xs : List Opd) : run kp (.ops (⟨none, .mx d xs⟩ :: r) ⟨e, h, t, b, n⟩) = opK kp (maxV true (xs.map (val e))) d r e h t b n := by
  rw [run_cons]
  show effK kp (eff (.mx d xs) e _ n) _ r _ = _
  simp only [eff]
  cases maxV true (xs.map (val e)) <;> rfl
theorem o_mn (d : Nat) (xs : List Opd) : run kp (.ops (⟨none, .mn d xs⟩ :: r) ⟨e, h, t, b, n⟩) = opK kp (maxV false (xs.map (val e))) d r e h t b n := by
  rw [run_cons]
  show effK kp (eff (.mn d xs) e _ n) _ r _ = _
  simp only [eff]
  cases maxV false (xs.map (val e)) <;> rfl
theorem o_box (d : Nat) (x : Opd) : run kp (.ops (⟨none, .box d x⟩ :: r) ⟨e, h, t, b, n⟩) = if (val e x).isUnd then none else run kp (.ops r ⟨put e d (.ptr n []), hput h n (.box (val e x)), t, b, n + 1⟩) := by
  rw [run_cons]
  show effK kp (eff (.box d x) e _ n) _ r _ = _
  simp only [eff]
  split <;> rfl
theorem o_alc (d : Nat) (z : V) : run kp (.ops (⟨none, .alc d z⟩ :: r) ⟨e, h, t, b, n⟩) = run kp (.ops r ⟨put e d (.ptr n []), hput h n (.box z), t, b, n + 1⟩) := by rw [run_cons]; rfl
theorem o_mkm (d : Nat) : run kp (.ops (⟨none, .mkm d⟩ :: r) ⟨e, h, t, b, n⟩) = run kp (.ops r ⟨put e d (.map n), hput h n (.mp []), t, b, n + 1⟩) := by rw [run_cons]; rfl
/-- What writes: its memory, then the rest. -/
noncomputable def stK (kp : Nat → Option KF) (x : Option Hp) (r : List GI) (e : Env) (h : Hp) (t : Nat → Option Blk) (b n : Nat) : Option Ans := match x with | some u => run kp (.ops r ⟨e, hputs h u, t, b, n⟩) | none => none
theorem stK_some (u : Hp) : stK kp (some u) r e h t b n = run kp (.ops r ⟨e, hputs h u, t, b, n⟩) := rfl
theorem stK_none : stK kp none r e h t b n = none := rfl
theorem stK_ite (c : Prop) [Decidable c] (x y : Option Hp) : stK kp (if c then x else y) r e h t b n = if c then stK kp x r e h t b n else stK kp y r e h t b n := by split <;> rfl
theorem o_st (a x : Opd) : run kp (.ops (⟨none, .st a x⟩ :: r) ⟨e, h, t, b, n⟩) = if (val e x).isUnd then none else stK kp (saveV (gOf h t) (val e a) (val e x)) r e h t b n := by
  rw [run_cons]
  show effK kp (eff (.st a x) e _ n) _ r _ = _
  simp only [eff, St.g_mk]
  split
  · rfl
  · cases saveV (gOf h t) (val e a) (val e x) <;> rfl
def muV (g : Nat → Option Blk) (m k v : V) : Option Hp := match m, k.pure? with
  | .map h, some x => (match g h with | some (.mp l) => some [(h, .mp (mapPut l x v))] | _ => none)
  | _, _ => none
theorem o_mu (m k v : Opd) : run kp (.ops (⟨none, .mu m k v⟩ :: r) ⟨e, h, t, b, n⟩) = if (val e v).isUnd then none else stK kp (muV (gOf h t) (val e m) (val e k) (val e v)) r e h t b n := by
  rw [run_cons]
  show effK kp (eff (.mu m k v) e _ n) _ r _ = _
  simp only [eff, St.g_mk, muV]
  split
  · rfl
  · cases val e m <;> cases (val e k).pure? <;> first | rfl | skip
    rename_i hh x
    simp only
    cases gOf h t hh with
    | none => rfl
    | some bk => cases bk <;> rfl
def lkV (g : Nat → Option Blk) (m k z : V) (ok : Bool) : Option V := match m, k.pure? with
  | .map h, some x => (match g h with
    | some (.mp l) => (match mapFind l x with | some v => some (if ok then .tup [v, .bool true] else v) | none => some (if ok then .tup [z, .bool false] else z))
    | _ => none)
  | _, _ => none
theorem o_lk (d : Nat) (m k : Opd) (z : V) (ok : Bool) : run kp (.ops (⟨none, .lk d m k z ok⟩ :: r) ⟨e, h, t, b, n⟩) = opK kp (lkV (gOf h t) (val e m) (val e k) z ok) d r e h t b n := by
  rw [run_cons]
  show effK kp (eff (.lk d m k z ok) e _ n) _ r _ = _
  simp only [eff, St.g_mk, lkV]
  cases val e m <;> cases (val e k).pure? <;> first | rfl | skip
  rename_i hh x
  simp only
  cases gOf h t hh with
  | none => rfl
  | some bk =>
    cases bk <;> first | rfl | skip
    rename_i l
    simp only
    cases mapFind l x <;> rfl
/-- What makes something new. -/
noncomputable def nwK (kp : Nat → Option KF) (x : Option (V × Hp × Nat)) (d : Nat) (r : List GI) (e : Env) (h : Hp) (t : Nat → Option Blk) (b : Nat) : Option Ans := match x with | some (v, u, m) => run kp (.ops r ⟨put e d v, hputs h u, t, b, m⟩) | none => none
theorem nwK_some (v : V) (u : Hp) (m d : Nat) : nwK kp (some (v, u, m)) d r e h t b = run kp (.ops r ⟨put e d v, hputs h u, t, b, m⟩) := rfl
theorem nwK_none (d : Nat) : nwK kp none d r e h t b = none := rfl
theorem nwK_ite (c : Prop) [Decidable c] (x y : Option (V × Hp × Nat)) (d : Nat) : nwK kp (if c then x else y) d r e h t b = if c then nwK kp x d r e h t b else nwK kp y d r e h t b := by split <;> rfl
theorem o_app (d : Nat) (x y : Opd) : run kp (.ops (⟨none, .app d x y⟩ :: r) ⟨e, h, t, b, n⟩) = nwK kp (appendV (gOf h t) n (val e x) (val e y)) d r e h t b := by
  rw [run_cons]
  show effK kp (eff (.app d x y) e _ n) _ r _ = _
  simp only [eff, St.g_mk]
  cases appendV (gOf h t) n (val e x) (val e y) <;> rfl
def capV0 (v : V) : Option V := match isNil0 v with | true => some (.int .i64 0) | false => none
theorem o_cap (d : Nat) (x : Opd) : run kp (.ops (⟨none, .cap d x⟩ :: r) ⟨e, h, t, b, n⟩) = opK kp (capV0 (val e x)) d r e h t b n := by
  rw [run_cons]
  show effK kp (eff (.cap d x) e _ n) _ r _ = _
  simp only [eff, capV0]
  generalize val e x = v
  unfold isNil0
  cases v with
  | d y => cases y with
    | sl b l => cases b <;> cases l <;> rfl
    | _ => rfl
  | asl b l => cases b <;> cases l <;> rfl
  | _ => rfl
def apzV (n : Nat) (z : D) (x c : V) : Option (V × Hp × Nat) := match isNil0 x, c with | true, .int _ a => if 0 < a ∧ a ≤ mostLen then some (.sl false n 0 a.toNat, [(n, .row true (List.replicate a.toNat z))], n + 1) else none | _, _ => none
theorem o_apz (d : Nat) (x : Opd) (z : D) (c : Opd) : run kp (.ops (⟨none, .apz d x z c⟩ :: r) ⟨e, h, t, b, n⟩) = nwK kp (apzV n z (val e x) (val e c)) d r e h t b := by
  rw [run_cons]
  show effK kp (eff (.apz d x z c) e _ n) _ r _ = _
  simp only [eff, apzV]
  cases isNil0 (val e x) with
  | false => rfl
  | true =>
    cases val e c with
    | int k a => simp only; split <;> rfl
    | _ => rfl
def tobV (v : V) : Option V := match v with | .d (.str l) => if l.length ≤ mostLen then some (.d (.sl false (l.map fun b => .int .u8 (b.toNat : Int)))) else none | _ => none
theorem o_tob (d : Nat) (x : Opd) : run kp (.ops (⟨none, .tob d x⟩ :: r) ⟨e, h, t, b, n⟩) = opK kp (tobV (val e x)) d r e h t b n := by
  rw [run_cons]
  show effK kp (eff (.tob d x) e _ n) _ r _ = _
  simp only [eff, tobV]
  generalize val e x = v
  cases v with
  | d y => cases y with
    | str l => simp only; split <;> rfl
    | _ => rfl
  | _ => rfl
def tosV (g : Nat → Option Blk) (v : V) : Option V := match elemsOf g v with | some l => (match bytesOf l with | some m => some (.d (.str m)) | none => none) | none => none
theorem o_tos (d : Nat) (x : Opd) : run kp (.ops (⟨none, .tos d x⟩ :: r) ⟨e, h, t, b, n⟩) = opK kp (tosV (gOf h t) (val e x)) d r e h t b n := by
  rw [run_cons]
  show effK kp (eff (.tos d x) e _ n) _ r _ = _
  simp only [eff, tosV, St.g_mk]
  cases elemsOf (gOf h t) (val e x) with
  | none => rfl
  | some l => simp only; cases bytesOf l <;> rfl
def bslV (g : Nat → Option Blk) (n : Nat) (vs : List V) : Option (V × Hp × Nat) := match freezes g vs with | some (l, u) => some (.sl false n 0 l.length, u ++ [(n, .row true l)], n + 1) | none => none
theorem o_bsl (d : Nat) (xs : List Opd) : run kp (.ops (⟨none, .bsl d xs⟩ :: r) ⟨e, h, t, b, n⟩) = nwK kp (bslV (gOf h t) n (xs.map (val e))) d r e h t b := by
  rw [run_cons]
  show effK kp (eff (.bsl d xs) e _ n) _ r _ = _
  simp only [eff, St.g_mk, bslV]
  cases freezes (gOf h t) (xs.map (val e)) <;> rfl
def mksV (n : Nat) (z : D) (l c : V) : Option (V × Hp × Nat) := match l, c with
  | .int _ a, .int _ b => if 0 ≤ a ∧ a ≤ b ∧ b ≤ mostLen then some (.sl false n 0 a.toNat, [(n, .row true (List.replicate a.toNat z))], n + 1) else none
  | _, _ => none
theorem mksV_int (n : Nat) (z : D) (k k' : IntKind) (a b : Int) : mksV n z (.int k a) (.int k' b) = if 0 ≤ a ∧ a ≤ b ∧ b ≤ mostLen then some (.sl false n 0 a.toNat, [(n, .row true (List.replicate a.toNat z))], n + 1) else none := rfl
theorem o_mks (d : Nat) (z : D) (l c : Opd) : run kp (.ops (⟨none, .mks d z l c⟩ :: r) ⟨e, h, t, b, n⟩) = nwK kp (mksV n z (val e l) (val e c)) d r e h t b := by
  rw [run_cons]
  show effK kp (eff (.mks d z l c) e _ n) _ r _ = _
  simp only [eff, mksV]
  cases val e l <;> cases val e c <;> first | rfl | skip
/-- Calls. -/
theorem o_dat (d f : Nat) (xs : List Opd) : run kp (.ops (⟨none, .dat d f xs⟩ :: r) ⟨e, h, t, b, n⟩) = datK0 kp (toDs (gOf h t) (xs.map (val e))) f d r ⟨e, h, t, b, n⟩ := by rw [run_cons]; rfl
theorem o_daf (d f : Nat) (xs : List Opd) : run kp (.ops (⟨none, .daf d f xs⟩ :: r) ⟨e, h, t, b, n⟩) = dafK0 kp (freezes (gOf h t) (xs.map (val e))) f d r ⟨e, h, t, b, n⟩ := by rw [run_cons]; rfl
theorem o_cal (d f : Nat) (xs : List Opd) (nt : List Nat) : run kp (.ops (⟨none, .cal d f xs nt⟩ :: r) ⟨e, h, t, b, n⟩) = calN kp (run kp (.call f (xs.map (val e)) (gOf h t) n)) nt d r ⟨e, h, t, b, n⟩ := by rw [run_cons]; rfl
theorem o_cav (d : Nat) (f : Opd) (xs : List Opd) : run kp (.ops (⟨none, .cav d f xs⟩ :: r) ⟨e, h, t, b, n⟩) = cavK kp (val e f) (xs.map (val e)) d r ⟨e, h, t, b, n⟩ := by rw [run_cons]; rfl
theorem o_mkf (d f : Nat) (xs ys : List Opd) : run kp (.ops (⟨none, .mkf d f xs ys⟩ :: r) ⟨e, h, t, b, n⟩) = if (xs.map (val e)).any V.isUnd || (ys.map (val e)).any V.isUnd then none else run kp (.ops r ⟨put e d (.clo f (xs.map (val e)) (ys.map (val e))), h, t, b, n⟩) := by
  rw [run_cons]
  show effK kp (eff (.mkf d f xs ys) e _ n) _ r _ = _
  simp only [eff]
  split <;> rfl
theorem o_nck_ptr (d : Nat) (x : Opd) : run kp (.ops (⟨none, .nck d x⟩ :: r) ⟨e, h, t, b, n⟩) = opK kp (match val e x with | .ptr h p => some (.ptr h p) | .rp x => some (.rp x) | .clo f a b => some (.clo f a b) | _ => none) d r e h t b n := by
  rw [run_cons]
  show effK kp (eff (.nck d x) e _ n) _ r _ = _
  simp only [eff]
  cases val e x <;> rfl
theorem o_clr (z : D) (x : Opd) : run kp (.ops (⟨none, .clr z x⟩ :: r) ⟨e, h, t, b, n⟩) = stK kp (clearV (gOf h t) z (val e x)) r e h t b n := by
  rw [run_cons]
  show effK kp (eff (.clr z x) e _ n) _ r _ = _
  simp only [eff, St.g_mk]
  cases clearV (gOf h t) z (val e x) <;> rfl
/-- Under a guard: what was asked is known behind it. -/
theorem put_look : ∀ {e : Env} {j : Nat} {v : V}, look e j = v → v ≠ .und → put e j v = e
  | [], j, v, h, hn => absurd h.symm hn
  | (i, x) :: e, j, v, h, hn => by
    simp only [look] at h
    simp only [put]
    split at h
    · rename_i hij; subst hij; subst h; rw [if_pos rfl]
    · rename_i hij; rw [if_neg hij, put_look h hn]
noncomputable def guK (kp : Nat → Option KF) (w : V) (j : Nat) (g : Bool) (i : KI) (r : List GI) (e : Env) (h : Hp) (t : Nat → Option Blk) (b n : Nat) : Option Ans := match w with
  | .bool c => if c = g then run kp (.ops (⟨none, i⟩ :: r) ⟨put e j (.bool g), h, t, b, n⟩) else run kp (.ops r ⟨putO (put e j (.bool (!g))) i.dst (.tup []), h, t, b, n⟩)
  | .tup [] => run kp (.ops r ⟨putO e i.dst (.tup []), h, t, b, n⟩)
  | _ => none
theorem guK_bool (c : Bool) (j : Nat) (g : Bool) (i : KI) : guK kp (.bool c) j g i r e h t b n = if c = g then run kp (.ops (⟨none, i⟩ :: r) ⟨put e j (.bool g), h, t, b, n⟩) else run kp (.ops r ⟨putO (put e j (.bool (!g))) i.dst (.tup []), h, t, b, n⟩) := rfl
theorem guK_tup (j : Nat) (g : Bool) (i : KI) : guK kp (.tup []) j g i r e h t b n = run kp (.ops r ⟨putO e i.dst (.tup []), h, t, b, n⟩) := rfl
theorem o_gu (j : Nat) (g : Bool) (i : KI) : run kp (.ops (⟨some (j, g), i⟩ :: r) ⟨e, h, t, b, n⟩) = guK kp (look e j) j g i r e h t b n := by
  rw [run_cons]
  simp only [wanted, guK]
  cases hl : look e j <;> first | rfl | skip
  · rename_i c
    simp only [wantK_some]
    by_cases hc : c = g
    · subst hc
      rw [if_pos (by simp), if_pos rfl, put_look hl (by simp), run_cons]
      rfl
    · have : c = !g := by cases c <;> cases g <;> simp_all
      subst this
      rw [if_neg (by simp), if_neg (by simp), put_look hl (by simp)]
  · rename_i l
    cases l <;> rfl
theorem pickV_bb (c x y : Bool) : pickV (.bool c) (.bool x) (.bool y) = some (.bool (if c then x else y)) := by cases c <;> rfl
theorem pickV_ii (c : Bool) (k : IntKind) (x y : Int) : pickV (.bool c) (.int k x) (.int k y) = some (.int k (if c then x else y)) := by cases c <;> rfl
/-- A region is over. -/
theorem regK_ok {s : St} {pairs : List (Nat × Nat)} {ops : List GI} {kill : List Nat} (hm : meets s.env ops pairs = false) : regK (some (.st s)) pairs ops kill = some (.out .nrm { s with env := forget s.env kill }) := by
  simp [regK, hm]
end Go.Fw
