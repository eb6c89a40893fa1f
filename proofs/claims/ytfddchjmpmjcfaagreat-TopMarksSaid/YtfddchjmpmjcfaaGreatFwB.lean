/- Abstract memory and concrete memory, and what they have to do with each other. No conditions. -/
import Derived.Test.YtfddchjmpmjcfaaGreatFwA
import GoSem.ClaimWide
import Derived.Laws.CopyRow
import Derived.Laws.Append
import Derived.Below
import Derived.OpenShut
import Derived.Laws.Slices
import Derived.DeepKeys
import Derived.Laws.Strings
set_option linter.unusedVariables false
set_option linter.unusedSimpArgs false
namespace Go.Fw
open Go

/-! ### Segments -/
def seg (c : List Value) (o n : Nat) : List Value := (c.drop o).take n
def splice (c : List Value) (o : Nat) (x : List Value) : List Value := c.take o ++ x ++ c.drop (o + x.length)
theorem seg_length {c : List Value} {o n : Nat} (h : o + n ≤ c.length) : (seg c o n).length = n := by simp [seg]; omega
theorem seg_seg {c : List Value} {o n o' n' : Nat} (h : o' + n' ≤ n) : seg (seg c o n) o' n' = seg c (o + o') n' := by
  simp only [seg, List.drop_take, List.take_take, List.drop_drop]
  congr 1
  omega
theorem seg_all (c : List Value) : seg c 0 c.length = c := by simp [seg]
theorem splice_length {c x : List Value} {o : Nat} (h : o + x.length ≤ c.length) : (splice c o x).length = c.length := by simp [splice]; omega
theorem seg_splice_same {c x : List Value} {o : Nat} (h : o + x.length ≤ c.length) : seg (splice c o x) o x.length = x := by
  have h1 : (c.take o).length = o := by simp; omega
  simp only [seg, splice, List.append_assoc]
  rw [List.drop_append_of_le_length (by omega), List.drop_of_length_le (by omega)]
  simp
theorem splice_getElem? {c x : List Value} {o : Nat} (h : o + x.length ≤ c.length) (j : Nat) : (splice c o x)[j]? = if o ≤ j ∧ j < o + x.length then x[j - o]? else c[j]? := by
  have h1 : (c.take o).length = o := by simp; omega
  simp only [splice, List.append_assoc]
  by_cases hj : j < o
  · rw [List.getElem?_append_left (by omega), List.getElem?_take_of_lt hj, if_neg (by omega)]
  · rw [List.getElem?_append_right (by omega), h1]
    by_cases hk : j < o + x.length
    · rw [List.getElem?_append_left (by omega), if_pos ⟨by omega, hk⟩]
    · rw [List.getElem?_append_right (by omega), if_neg (by omega), List.getElem?_drop]
      congr 1
      omega
theorem seg_getElem? (c : List Value) (o n j : Nat) : (seg c o n)[j]? = if j < n then c[o + j]? else none := by
  simp only [seg, List.getElem?_take, List.getElem?_drop]
theorem seg_splice_apart {c x : List Value} {o o' n : Nat} (h : o + x.length ≤ c.length) (ha : o' + n ≤ o ∨ o + x.length ≤ o') : seg (splice c o x) o' n = seg c o' n := by
  apply List.ext_getElem?
  intro j
  rw [seg_getElem?, seg_getElem?]
  split
  · rw [splice_getElem? h, if_neg (by omega)]
  · rfl
theorem seg_splice_in {c x : List Value} {o o' n : Nat} (h : o + n ≤ c.length) (hx : o' + x.length ≤ n) : seg (splice c (o + o') x) o n = splice (seg c o n) o' x := by
  apply List.ext_getElem?
  intro j
  rw [seg_getElem?, splice_getElem? (c := seg c o n) (by rw [seg_length h]; exact hx), splice_getElem? (c := c) (by omega), seg_getElem?]
  by_cases h1 : j < n
  · rw [if_pos h1]
    by_cases h2 : o' ≤ j ∧ j < o' + x.length
    · rw [if_pos (by omega), if_pos h2]; congr 1; omega
    · rw [if_neg (by omega), if_neg h2, if_pos h1]
  · rw [if_neg h1, if_neg (by omega), if_neg h1]
theorem splice_all {c x : List Value} (h : x.length = c.length) : splice c 0 x = x := by simp [splice, h]

/-! ### Types -/
inductive Ty where
  | i (k : IntKind)
  | b
  | ag (t : TypeId)
  | sl (e : TypeId)
  | pt (e : TypeId)
  | mp (t : TypeId)
  | fn (t : TypeId)
  | s
  | no
  deriving DecidableEq, Inhabited
def tyOf (P : Program) (t : TypeId) : Ty :=
  match P.underlying t with
  | some (.int k) => .i k
  | some .bool => .b
  | some (.struct _) => .ag t
  | some (.array _ _) => .ag t
  | some (.slice e) => .sl e
  | some (.pointer e) => .pt e
  | some (.map _ _) => .mp t
  | some (.func _ _ _) => .fn t
  | some .string => .s
  | _ => .no
def tySize (P : Program) : Ty → Nat
  | .ag t => P.cellsOf t
  | .no => 0
  | _ => 1
def Ty.plain : Ty → Bool
  | .i _ => true
  | .b => true
  | _ => false
def Ty.isAg : Ty → Bool
  | .ag _ => true
  | _ => false

/-- Where a handle's block lies. 'blk' none: no memory at all (an empty row). -/
structure Loc where
  blk : Option Nat
  row : Bool
  off : Nat
  size : Nat
  ty : TypeId

section
variable (P : Program)

/-- The fields of a struct lie apart, each within it. -/
def StructOk (t : TypeId) (fs : Array Field) : Prop :=
  (∀ (i : Nat) (f : Field), fs[i]? = some f → f.offset + tySize P (tyOf P f.type) ≤ P.cellsOf t) ∧
  (∀ (i j : Nat) (f g : Field), i < j → fs[i]? = some f → fs[j]? = some g → f.offset + tySize P (tyOf P f.type) ≤ g.offset) ∧
  ∀ j, j < P.cellsOf t → ∃ (i : Nat) (f : Field), fs[i]? = some f ∧ f.offset ≤ j ∧ j < f.offset + tySize P (tyOf P f.type)
def CellsAt (H : Array Obj) (b o : Nat) (cs : List Value) : Prop := ∃ c t fr, H[b]? = some (.cells c t fr) ∧ o + cs.length ≤ c.size ∧ seg c.toList o cs.length = cs

/-- Data in memory; 'S': blocks that stay as they are. -/
inductive RD (H : Array Obj) (S : Nat → Prop) : Ty → D → List Value → Prop
  | int {k : IntKind} {n : Int} : (Lit.int k n).wf = true → RD H S (.i k) (.int k n) [.int k n]
  | bool {b : Bool} : RD H S .b (.bool b) [.bool b]
  | str {l : List UInt8} : l.length ≤ maxLen → RD H S .s (.str l) [.string ⟨l.toArray⟩]
  | struct {t : TypeId} {fs : Array Field} {ds : List D} {cs : List Value} : P.underlying t = some (.struct fs) → StructOk P t fs → cs.length = P.cellsOf t → ds.length = fs.size →
      (∀ (i : Nat) (f : Field) (d : D), fs[i]? = some f → ds[i]? = some d → RD H S (tyOf P f.type) d (seg cs f.offset (tySize P (tyOf P f.type)))) → RD H S (.ag t) (.agg ds) cs
  | array {t : TypeId} {n : Nat} {e : TypeId} {ds : List D} {cs : List Value} : P.underlying t = some (.array n e) → P.cellsOf t = n * tySize P (tyOf P e) → cs.length = P.cellsOf t → ds.length = n →
      (∀ (i : Nat) (d : D), ds[i]? = some d → RD H S (tyOf P e) d (seg cs (i * tySize P (tyOf P e)) (tySize P (tyOf P e)))) → RD H S (.ag t) (.agg ds) cs
  | nil {e : TypeId} : RD H S (.sl e) (.sl true []) [.slice none 0 0]
  | slice {e : TypeId} {l : List D} {b o cap : Nat} {sp : Option Nat} {g : Nat → List Value} : l.length ≤ cap → cap ≤ maxLen → (l ≠ [] → sp = none) → (l ≠ [] → S b) →
      (∀ i, i < l.length → CellsAt H b (o + i * tySize P (tyOf P e)) (g i)) → (∀ (i : Nat) (d : D), l[i]? = some d → RD H S (tyOf P e) d (g i)) → RD H S (.sl e) (.sl false l) [.slice (some ⟨b, o, sp⟩) l.length cap]

/-- A way to a part. -/
inductive PathAt : Ty → List Nat → Nat → Ty → Prop
  | nil {ty : Ty} : PathAt ty [] 0 ty
  | field {t : TypeId} {fs : Array Field} {f : Field} {i : Nat} {p : List Nat} {o : Nat} {ty : Ty} : P.underlying t = some (.struct fs) → fs[i]? = some f → PathAt (tyOf P f.type) p o ty → PathAt (.ag t) (i :: p) (f.offset + o) ty
  | elem {t : TypeId} {n : Nat} {e : TypeId} {i : Nat} {p : List Nat} {o : Nat} {ty : Ty} : P.underlying t = some (.array n e) → i < n → PathAt (tyOf P e) p o ty → PathAt (.ag t) (i :: p) (i * tySize P (tyOf P e) + o) ty

/-- What the frame of a relation is. 'S': blocks that stay for ever; 'F': blocks that nobody here writes; 'ft': the types of a function's parameters and of what it captures. -/
structure Ctx where
  H : Array Obj
  S : Nat → Prop
  F : Nat → Prop
  ρ : Nat → Option Loc
  ft : Nat → List Ty × List Ty × List (Nat × TypeId)

/-- A slice of somebody else's. -/
def Asl (C : Ctx) (e : TypeId) (n : Bool) (l : List D) (v : Value) : Prop :=
  (n = true ∧ l = [] ∧ v = .slice none 0 0) ∨
  (n = false ∧ ∃ (b o cap : Nat) (sp : Option Nat) (g : Nat → List Value), v = .slice (some ⟨b, o, sp⟩) l.length cap ∧ l.length ≤ cap ∧ cap ≤ maxLen ∧ (l ≠ [] → sp = none) ∧ (l ≠ [] → C.F b) ∧
    (∀ i, i < l.length → CellsAt C.H b (o + i * tySize P (tyOf P e)) (g i)) ∧ ∀ (i : Nat) (d : D), l[i]? = some d → RD P C.H C.S (tyOf P e) d (g i))
/-- A slice of one's own. -/
def Sl (C : Ctx) (e : TypeId) (n : Bool) (h off len : Nat) (v : Value) : Prop :=
  ∃ L, C.ρ h = some L ∧ L.row = true ∧ L.ty = e ∧
    ((n = true ∧ len = 0 ∧ v = .slice none 0 0) ∨
     (n = false ∧ ∃ a cap, v = .slice (some a) len cap ∧ len ≤ cap ∧ cap ≤ maxLen ∧
       (cap = 0 ∨ ∃ b, L.blk = some b ∧ a = ⟨b, L.off + off * tySize P (tyOf P e), none⟩ ∧ L.off + (off + cap) * tySize P (tyOf P e) ≤ L.size)))
/-- A pointer into one's own memory. -/
def Ptr (C : Ctx) (e : TypeId) (h : Nat) (p : List Nat) (v : Value) : Prop :=
  ∃ L b o, C.ρ h = some L ∧ L.blk = some b ∧ v = .pointer (some ⟨b, o, none⟩) ∧
    ((L.row = false ∧ PathAt P (tyOf P L.ty) p o (tyOf P e)) ∨
     (L.row = true ∧ ∃ i q o', p = i :: q ∧ PathAt P (tyOf P L.ty) q o' (tyOf P e) ∧ o = L.off + i * tySize P (tyOf P L.ty) + o'))

inductive VR (C : Ctx) : Ty → V → List Value → Prop
  | int {k : IntKind} {n : Int} : (Lit.int k n).wf = true → VR C (.i k) (.int k n) [.int k n]
  | bool {b : Bool} : VR C .b (.bool b) [.bool b]
  | d {ty : Ty} {x : D} {cs : List Value} : RD P C.H C.S ty x cs → ty.plain = false → VR C ty (.d x) cs
  | struct {t : TypeId} {fs : Array Field} {vs : List V} {cs : List Value} : P.underlying t = some (.struct fs) → StructOk P t fs → cs.length = P.cellsOf t → vs.length = fs.size →
      (∀ (i : Nat) (f : Field) (v : V), fs[i]? = some f → vs[i]? = some v → VR C (tyOf P f.type) v (seg cs f.offset (tySize P (tyOf P f.type)))) → VR C (.ag t) (.agg vs) cs
  | array {t : TypeId} {n : Nat} {e : TypeId} {vs : List V} {cs : List Value} : P.underlying t = some (.array n e) → P.cellsOf t = n * tySize P (tyOf P e) → cs.length = P.cellsOf t → vs.length = n →
      (∀ (i : Nat) (v : V), vs[i]? = some v → VR C (tyOf P e) v (seg cs (i * tySize P (tyOf P e)) (tySize P (tyOf P e)))) → VR C (.ag t) (.agg vs) cs
  | asl {e : TypeId} {n : Bool} {l : List D} {v : Value} : Asl P C e n l v → VR C (.sl e) (.asl n l) [v]
  | sl {e : TypeId} {n : Bool} {h off len : Nat} {v : Value} : Sl P C e n h off len v → VR C (.sl e) (.sl n h off len) [v]
  | ptr {e : TypeId} {h : Nat} {p : List Nat} {v : Value} : Ptr P C e h p v → VR C (.pt e) (.ptr h p) [v]
  | rp {e : TypeId} {x : D} {b o : Nat} {cs : List Value} : C.F b → CellsAt C.H b o cs → RD P C.H C.S (tyOf P e) x cs → VR C (.pt e) (.rp x) [.pointer (some ⟨b, o, none⟩)]
  | map {t : TypeId} {h r : Nat} {L : Loc} : C.ρ h = some L → L.blk = some r → L.ty = t → VR C (.mp t) (.map h) [.map (some r)]
  | clo {f : Nat} {first caps : List V} {fa ca : Array Value} {t : TypeId} : (first.length, t) ∈ (C.ft f).2.2 → first.length ≤ (C.ft f).1.length → caps.length = (C.ft f).2.1.length → fa.size = first.length → ca.size = caps.length →
      (∀ (i : Nat) (c : Value), fa[i]? = some c → c.cells = #[c]) → (∀ (i : Nat) (c : Value), ca[i]? = some c → c.cells = #[c]) →
      (∀ (i : Nat) (ty : Ty), i < first.length → (C.ft f).1[i]? = some ty → ty.isAg = false) → (∀ (i : Nat) (ty : Ty), (C.ft f).2.1[i]? = some ty → ty.isAg = false) →
      (∀ (i : Nat) (ty : Ty) (v : V) (c : Value), (C.ft f).1[i]? = some ty → first[i]? = some v → fa[i]? = some c → VR C ty v [c]) →
      (∀ (i : Nat) (ty : Ty) (v : V) (c : Value), (C.ft f).2.1[i]? = some ty → caps[i]? = some v → ca[i]? = some c → VR C ty v [c]) →
      VR C (.fn t) (.clo f first caps) [.func (.func f) fa ca]
  | und {ty : Ty} {cs : List Value} : (∀ c ∈ cs, c.oneCell' = true) → VR C ty .und cs
end

variable {P : Program}
/-- One frame that comes behind another one. -/
structure Ctx.Le (C C' : Ctx) : Prop where
  S : ∀ b, C.S b → C'.S b
  F : ∀ b, C.F b → C'.F b
  hS : ∀ b, C.S b → C'.H[b]? = C.H[b]?
  hF : ∀ b, C.F b → C'.H[b]? = C.H[b]?
  ρ : ∀ h L, C.ρ h = some L → C'.ρ h = some L
  ft : C'.ft = C.ft
theorem Ctx.Le.refl (C : Ctx) : C.Le C := ⟨fun _ h => h, fun _ h => h, fun _ _ => rfl, fun _ _ => rfl, fun _ _ h => h, rfl⟩
theorem Ctx.Le.trans {A B C : Ctx} (h : A.Le B) (k : B.Le C) : A.Le C :=
  ⟨fun b x => k.S b (h.S b x), fun b x => k.F b (h.F b x), fun b x => (k.hS b (h.S b x)).trans (h.hS b x), fun b x => (k.hF b (h.F b x)).trans (h.hF b x),
   fun a L x => k.ρ a L (h.ρ a L x), k.ft.trans h.ft⟩
theorem CellsAt.of_same {H H' : Array Obj} {b o : Nat} {cs : List Value} (h : CellsAt H b o cs) (e : H'[b]? = H[b]?) : CellsAt H' b o cs := by
  obtain ⟨c, t, fr, h1, h2⟩ := h
  exact ⟨c, t, fr, e.trans h1, h2⟩
theorem RD.mono' {H H' : Array Obj} {S S' : Nat → Prop} (hS : ∀ b, S b → S' b) (hH : ∀ b, S b → H'[b]? = H[b]?) {ty : Ty} {x : D} {cs : List Value} (h : RD P H S ty x cs) : RD P H' S' ty x cs := by
  induction h with
  | int h => exact .int h
  | bool => exact .bool
  | str h => exact .str h
  | struct h1 h0 h2 h3 _ ih => exact .struct h1 h0 h2 h3 ih
  | array h1 h0 h2 h3 _ ih => exact .array h1 h0 h2 h3 ih
  | nil => exact .nil
  | slice h1 h2 h3 h4 h5 _ ih => exact .slice h1 h2 h3 (fun hl => hS _ (h4 hl)) (fun i hi => (h5 i hi).of_same (hH _ (h4 (fun e => by simp [e] at hi)))) ih
theorem RD.mono {C C' : Ctx} (h : C.Le C') {ty : Ty} {x : D} {cs : List Value} (hr : RD P C.H C.S ty x cs) : RD P C'.H C'.S ty x cs := hr.mono' h.S h.hS
theorem Asl.mono {C C' : Ctx} (h : C.Le C') {e : TypeId} {n : Bool} {l : List D} {v : Value} (hr : Asl P C e n l v) : Asl P C' e n l v := by
  rcases hr with hr | ⟨hn, b, o, cap, sp, g, h1, h2, h3, h4, h5, h6, h7⟩
  · exact .inl hr
  · exact .inr ⟨hn, b, o, cap, sp, g, h1, h2, h3, h4, fun hl => h.F _ (h5 hl), fun i hi => (h6 i hi).of_same (h.hF _ (h5 (fun e => by simp [e] at hi))), fun i d hd => (h7 i d hd).mono h⟩
theorem Sl.mono {C C' : Ctx} (h : ∀ x L, C.ρ x = some L → C'.ρ x = some L) {e : TypeId} {n : Bool} {a off len : Nat} {v : Value} (hr : Sl P C e n a off len v) : Sl P C' e n a off len v := by
  obtain ⟨L, hL, r⟩ := hr
  exact ⟨L, h _ _ hL, r⟩
theorem Ptr.mono {C C' : Ctx} (h : ∀ x L, C.ρ x = some L → C'.ρ x = some L) {e : TypeId} {a : Nat} {p : List Nat} {v : Value} (hr : Ptr P C e a p v) : Ptr P C' e a p v := by
  obtain ⟨L, b, o, hL, r⟩ := hr
  exact ⟨L, b, o, h _ _ hL, r⟩
theorem VR.mono {C C' : Ctx} (h : C.Le C') {ty : Ty} {v : V} {cs : List Value} (hr : VR P C ty v cs) : VR P C' ty v cs := by
  induction hr with
  | int h => exact .int h
  | bool => exact .bool
  | d h1 h2 => exact .d (h1.mono h) h2
  | struct h1 h0 h2 h3 _ ih => exact .struct h1 h0 h2 h3 ih
  | array h1 h0 h2 h3 _ ih => exact .array h1 h0 h2 h3 ih
  | asl h1 => exact .asl (h1.mono h)
  | sl h1 => exact .sl (h1.mono h.ρ)
  | ptr h1 => exact .ptr (h1.mono h.ρ)
  | rp h1 h2 h3 => exact .rp (h.F _ h1) (h2.of_same (h.hF _ h1)) (h3.mono h)
  | map h1 h2 h3 => exact .map (h.ρ _ _ h1) h2 h3
  | clo h0 h1 h2 h3 h4 h5 h6 h7 h8 _ _ ih1 ih2 => exact .clo (by rw [h.ft]; exact h0) (by rw [h.ft]; exact h1) (by rw [h.ft]; exact h2) h3 h4 h5 h6 (by rw [h.ft]; exact h7) (by rw [h.ft]; exact h8) (by rw [h.ft]; exact ih1) (by rw [h.ft]; exact ih2)
  | und h1 => exact .und h1
end Go.Fw
namespace Go.Fw
open Go
variable {P : Program}

theorem mul_part {i n s : Nat} (h : i < n) : i * s + s ≤ n * s := by
  have : (i + 1) * s ≤ n * s := Nat.mul_le_mul_right _ h
  rw [Nat.add_mul] at this
  omega
theorem mul_apart {i j s : Nat} (h : i < j) : i * s + s ≤ j * s := by
  have : (i + 1) * s ≤ j * s := Nat.mul_le_mul_right _ h
  rw [Nat.add_mul] at this
  omega
theorem struct_inj {a b : Array Field} (h : some (TypeDesc.struct a) = some (TypeDesc.struct b)) : a = b := by injection h with h; injection h
theorem array_inj {a b : Nat} {c d : TypeId} (h : some (TypeDesc.array a c) = some (TypeDesc.array b d)) : a = b ∧ c = d := by injection h with h; injection h with h1 h2; exact ⟨h1, h2⟩
theorem RD.length {H : Array Obj} {S : Nat → Prop} {ty : Ty} {x : D} {cs : List Value} (h : RD P H S ty x cs) : cs.length = tySize P ty := by
  cases h <;> simp_all [tySize]
theorem seg_len_of {c : List Value} {o n : Nat} (h : (seg c o n).length = n) (hn : 0 < n) : o + n ≤ c.length := by
  simp [seg] at h; omega

theorem RD.at {H : Array Obj} {S : Nat → Prop} {ty ty' : Ty} {p : List Nat} {o : Nat} (hp : PathAt P ty p o ty') : ∀ {x y : D} {cs : List Value}, RD P H S ty x cs → x.at p = some y →
    RD P H S ty' y (seg cs o (tySize P ty')) ∧ o + tySize P ty' ≤ cs.length := by
  induction hp with
  | nil =>
    intro x y cs h e
    have : x = y := by cases x <;> simpa [D.at] using e
    subst this
    have hl := h.length
    rw [← hl, seg_all]
    exact ⟨h, by omega⟩
  | @field t fs f ix p' o' ty'' h1 h2 h3 ih =>
    intro x y cs h e
    cases h with
    | struct k1 k0 k2 k3 k4 =>
      rw [h1] at k1
      obtain rfl := struct_inj k1
      simp only [D.at] at e
      split at e
      · rename_i z hz
        have hw := k4 _ _ z h2 hz
        obtain ⟨r1, r2⟩ := ih hw e
        have hb := k0.1 _ _ h2
        have hl : (seg cs f.offset (tySize P (tyOf P f.type))).length = _ := seg_length (c := cs) (by rw [k2]; exact hb)
        rw [hl] at r2
        rw [seg_seg r2] at r1
        exact ⟨r1, by omega⟩
      · cases e
    | array k1 => rw [h1] at k1; cases k1
  | @elem t n el ix p' o' ty'' h1 h2 h3 ih =>
    intro x y cs h e
    cases h with
    | array k1 k0 k2 k3 k4 =>
      rw [h1] at k1
      obtain ⟨rfl, rfl⟩ := array_inj k1
      simp only [D.at] at e
      split at e
      · rename_i z hz
        have hw := k4 _ z hz
        obtain ⟨r1, r2⟩ := ih hw e
        have hb := mul_part (s := tySize P (tyOf P el)) h2
        have hl : (seg cs (ix * tySize P (tyOf P el)) (tySize P (tyOf P el))).length = _ := seg_length (c := cs) (by rw [k2, k0]; exact hb)
        rw [hl] at r2
        rw [seg_seg r2] at r1
        exact ⟨r1, by omega⟩
      · cases e
    | struct k1 => rw [h1] at k1; cases k1

theorem ofD_VR {C : Ctx} {ty : Ty} {x : D} {cs : List Value} (h : RD P C.H C.S ty x cs) : VR P C ty (ofD x) cs := by
  cases h with
  | int h => exact .int h
  | bool => exact .bool
  | str h => exact .d (.str h) rfl
  | struct h1 h0 h2 h3 h4 => exact .d (.struct h1 h0 h2 h3 h4) rfl
  | array h1 h0 h2 h3 h4 => exact .d (.array h1 h0 h2 h3 h4) rfl
  | nil => exact .d .nil rfl
  | slice h1 h2 h3 h4 h5 h6 => exact .d (.slice h1 h2 h3 h4 h5 h6) rfl
/-- Scalars as data. -/
theorem VR.d_int {C : Ctx} {ty : Ty} {k : IntKind} {n : Int} {cs : List Value} (h : VR P C ty (.int k n) cs) : RD P C.H C.S ty (.int k n) cs := by cases h with | int h => exact .int h
theorem VR.d_bool {C : Ctx} {ty : Ty} {b : Bool} {cs : List Value} (h : VR P C ty (.bool b) cs) : RD P C.H C.S ty (.bool b) cs := by cases h with | bool => exact .bool
theorem VR.d_inv {C : Ctx} {ty : Ty} {x : D} {cs : List Value} (h : VR P C ty (.d x) cs) : RD P C.H C.S ty x cs := by cases h with | d h _ => exact h

mutual
theorem pures_len : ∀ (l : List V) {m : List D}, V.pures? l = some m → m.length = l.length
  | [], m, h => by simp [V.pures?] at h; subst h; rfl
  | v :: l, m, h => by
    simp only [V.pures?] at h
    split at h
    · rename_i x y h1 h2
      injection h with h; subst h
      simp [pures_len l h2]
    · cases h
end
theorem pures_get : ∀ (l : List V) {m : List D}, V.pures? l = some m → ∀ (i : Nat) (d : D), m[i]? = some d → ∃ v, l[i]? = some v ∧ v.pure? = some d
  | [], m, h, i, d, hd => by simp [V.pures?] at h; subst h; simp at hd
  | v :: l, m, h, i, d, hd => by
    simp only [V.pures?] at h
    split at h
    · rename_i x y h1 h2
      injection h with h; subst h
      cases i with
      | zero => simp at hd; subst hd; exact ⟨v, by simp, h1⟩
      | succ i => simpa using pures_get l h2 i d (by simpa using hd)
    · cases h
theorem VR.pure {C : Ctx} {ty : Ty} {v : V} {cs : List Value} (h : VR P C ty v cs) : ∀ {x : D}, v.pure? = some x → RD P C.H C.S ty x cs := by
  induction h with
  | int h => intro x e; simp [V.pure?] at e; subst e; exact .int h
  | bool => intro x e; simp [V.pure?] at e; subst e; exact .bool
  | d h _ => intro x e; simp [V.pure?] at e; subst e; exact h
  | struct h1 h0 h2 h3 _ ih =>
    intro x e
    simp only [V.pure?, Option.map_eq_some_iff] at e
    obtain ⟨m, hm, rfl⟩ := e
    refine .struct h1 h0 h2 (by rw [pures_len _ hm, h3]) (fun i f d hf hd => ?_)
    obtain ⟨v, hv, hp⟩ := pures_get _ hm i d hd
    exact ih i f v hf hv hp
  | array h1 h0 h2 h3 _ ih =>
    intro x e
    simp only [V.pure?, Option.map_eq_some_iff] at e
    obtain ⟨m, hm, rfl⟩ := e
    refine .array h1 h0 h2 (by rw [pures_len _ hm, h3]) (fun i d hd => ?_)
    obtain ⟨v, hv, hp⟩ := pures_get _ hm i d hd
    exact ih i v hv hp
  | asl _ => intro x e; simp [V.pure?] at e
  | sl _ => intro x e; simp [V.pure?] at e
  | ptr _ => intro x e; simp [V.pure?] at e
  | rp _ _ _ => intro x e; simp [V.pure?] at e
  | map _ _ _ => intro x e; simp [V.pure?] at e
  | clo => intro x e; simp [V.pure?] at e
  | und _ => intro x e; simp [V.pure?] at e

theorem V.at_nil (v : V) : v.at [] = some v := by cases v <;> rfl
theorem D.at_nil (v : D) : v.at [] = some v := by cases v <;> rfl
theorem V.at_d {x : D} {p : List Nat} {v : V} (h : (V.d x).at p = some v) : (p = [] ∧ v = .d x) ∨ ∃ y, x.at p = some y ∧ v = ofD y := by
  cases p with
  | nil => simp [V.at] at h; exact .inl ⟨rfl, h.symm⟩
  | cons i p =>
    simp only [V.at] at h
    split at h
    · rename_i y hy; injection h with h; exact .inr ⟨y, hy, h.symm⟩
    · cases h

theorem VR.at {C : Ctx} {ty ty' : Ty} {p : List Nat} {o : Nat} (hp : PathAt P ty p o ty') : ∀ {v w : V} {cs : List Value}, VR P C ty v cs → cs.length = tySize P ty → v.at p = some w →
    VR P C ty' w (seg cs o (tySize P ty')) ∧ o + tySize P ty' ≤ cs.length := by
  induction hp with
  | nil =>
    intro v w cs h hl e
    rw [V.at_nil] at e
    injection e with e; subst e
    rw [← hl, seg_all]
    exact ⟨h, by omega⟩
  | @field t fs f ix p' o' ty'' h1 h2 h3 ih =>
    intro v w cs h hl e
    cases h with
    | d hd _ =>
      rcases V.at_d e with ⟨e, _⟩ | ⟨y, hy, rfl⟩
      · cases e
      · obtain ⟨r1, r2⟩ := hd.at (.field h1 h2 h3) hy
        exact ⟨ofD_VR r1, r2⟩
    | struct k1 k0 k2 k3 k4 =>
      rw [h1] at k1
      obtain rfl := struct_inj k1
      simp only [V.at] at e
      split at e
      · rename_i z hz
        have hw := k4 _ _ z h2 hz
        have hb := k0.1 _ _ h2
        have hl' : (seg cs f.offset (tySize P (tyOf P f.type))).length = _ := seg_length (c := cs) (by rw [k2]; exact hb)
        obtain ⟨r1, r2⟩ := ih hw hl' e
        rw [hl'] at r2
        rw [seg_seg r2] at r1
        exact ⟨r1, by omega⟩
      · cases e
    | array k1 => rw [h1] at k1; cases k1
    | und _ => simp [V.at] at e
  | @elem t n el ix p' o' ty'' h1 h2 h3 ih =>
    intro v w cs h hl e
    cases h with
    | d hd _ =>
      rcases V.at_d e with ⟨e, _⟩ | ⟨y, hy, rfl⟩
      · cases e
      · obtain ⟨r1, r2⟩ := hd.at (.elem h1 h2 h3) hy
        exact ⟨ofD_VR r1, r2⟩
    | array k1 k0 k2 k3 k4 =>
      rw [h1] at k1
      obtain ⟨rfl, rfl⟩ := array_inj k1
      simp only [V.at] at e
      split at e
      · rename_i z hz
        have hw := k4 _ z hz
        have hb := mul_part (s := tySize P (tyOf P el)) h2
        have hl' : (seg cs (ix * tySize P (tyOf P el)) (tySize P (tyOf P el))).length = _ := seg_length (c := cs) (by rw [k2, k0]; exact hb)
        obtain ⟨r1, r2⟩ := ih hw hl' e
        rw [hl'] at r2
        rw [seg_seg r2] at r1
        exact ⟨r1, by omega⟩
      · cases e
    | struct k1 => rw [h1] at k1; cases k1
    | und _ => simp [V.at] at e

theorem RD.set {H : Array Obj} {S : Nat → Prop} {ty ty' : Ty} {p : List Nat} {o : Nat} (hp : PathAt P ty p o ty') : ∀ {x y z : D} {cs ys : List Value}, RD P H S ty x cs → RD P H S ty' y ys → x.set p y = some z →
    RD P H S ty z (splice cs o ys) ∧ o + ys.length ≤ cs.length := by
  induction hp with
  | nil =>
    intro x y z cs ys h hy e
    have : y = z := by cases x <;> simpa [D.set] using e
    subst this
    have hl : ys.length = cs.length := by rw [h.length, hy.length]
    rw [splice_all hl]
    exact ⟨hy, by omega⟩
  | @field t fs f ix p' o' ty'' h1 h2 h3 ih =>
    intro x y z cs ys h hy e
    cases h with
    | struct k1 k0 k2 k3 k4 =>
      rw [h1] at k1
      obtain rfl := struct_inj k1
      simp only [D.set] at e
      split at e
      · rename_i w hw
        split at e
        · rename_i w' hw'
          injection e with e; subst e
          have hb := k0.1 _ _ h2
          have hl : (seg cs f.offset (tySize P (tyOf P f.type))).length = _ := seg_length (c := cs) (by rw [k2]; exact hb)
          obtain ⟨r1, r2⟩ := ih (k4 _ _ w h2 hw) hy hw'
          rw [hl] at r2
          refine ⟨.struct h1 k0 (by rw [splice_length (by omega), k2]) (by simp [k3]) (fun i g d hf hd => ?_), by omega⟩
          by_cases hi : i = ix
          · subst hi
            rw [h2] at hf; injection hf with hf; subst hf
            rw [List.getElem?_set_self (by have := (List.getElem?_eq_some_iff.1 hw).1; exact this)] at hd
            injection hd with hd; subst hd
            rw [seg_splice_in (by rw [k2]; exact hb) r2]
            exact r1
          · rw [List.getElem?_set_ne (Ne.symm hi)] at hd
            rw [seg_splice_apart (by omega)]
            · exact k4 i g d hf hd
            · rcases Nat.lt_or_gt_of_ne hi with hlt | hgt
              · have := k0.2.1 _ _ _ _ hlt hf h2; omega
              · have := k0.2.1 _ _ _ _ hgt h2 hf; omega
        · cases e
      · cases e
    | array k1 => rw [h1] at k1; cases k1
  | @elem t n el ix p' o' ty'' h1 h2 h3 ih =>
    intro x y z cs ys h hy e
    cases h with
    | array k1 k0 k2 k3 k4 =>
      rw [h1] at k1
      obtain ⟨rfl, rfl⟩ := array_inj k1
      simp only [D.set] at e
      split at e
      · rename_i w hw
        split at e
        · rename_i w' hw'
          injection e with e; subst e
          have hb := mul_part (s := tySize P (tyOf P el)) h2
          have hl : (seg cs (ix * tySize P (tyOf P el)) (tySize P (tyOf P el))).length = _ := seg_length (c := cs) (by rw [k2, k0]; exact hb)
          obtain ⟨r1, r2⟩ := ih (k4 _ w hw) hy hw'
          rw [hl] at r2
          refine ⟨.array h1 k0 (by rw [splice_length (by omega), k2]) (by simp [k3]) (fun i d hd => ?_), by omega⟩
          by_cases hi : i = ix
          · subst hi
            rw [List.getElem?_set_self (by have := (List.getElem?_eq_some_iff.1 hw).1; exact this)] at hd
            injection hd with hd; subst hd
            rw [seg_splice_in (by rw [k2, k0]; exact hb) r2]
            exact r1
          · rw [List.getElem?_set_ne (Ne.symm hi)] at hd
            rw [seg_splice_apart (by omega)]
            · exact k4 i d hd
            · rcases Nat.lt_or_gt_of_ne hi with hlt | hgt
              · have := mul_apart (s := tySize P (tyOf P el)) hlt; omega
              · have := mul_apart (s := tySize P (tyOf P el)) hgt; omega
        · cases e
      · cases e
    | struct k1 => rw [h1] at k1; cases k1

theorem VR.opened {C : Ctx} {t : TypeId} {l : List D} {cs : List Value} (h : VR P C (.ag t) (.d (.agg l)) cs) : VR P C (.ag t) (.agg (l.map ofD)) cs := by
  cases h with
  | d h _ =>
    cases h with
    | struct h1 h0 h2 h3 h4 =>
      refine .struct h1 h0 h2 (by simp [h3]) (fun i f v hf hv => ?_)
      rw [List.getElem?_map, Option.map_eq_some_iff] at hv
      obtain ⟨d, hd, rfl⟩ := hv
      exact ofD_VR (h4 i f d hf hd)
    | array h1 h0 h2 h3 h4 =>
      refine .array h1 h0 h2 (by simp [h3]) (fun i v hv => ?_)
      rw [List.getElem?_map, Option.map_eq_some_iff] at hv
      obtain ⟨d, hd, rfl⟩ := hv
      exact ofD_VR (h4 i d hd)
theorem V.set_d {l : List D} {i : Nat} {p : List Nat} {y : V} : (V.d (.agg l)).set (i :: p) y = (V.agg (l.map ofD)).set (i :: p) y := by
  simp only [V.set, List.getElem?_map]
  cases l[i]? <;> rfl

theorem VR.set {C : Ctx} {ty ty' : Ty} {p : List Nat} {o : Nat} (hp : PathAt P ty p o ty') : ∀ {x y z : V} {cs ys : List Value}, VR P C ty x cs → cs.length = tySize P ty → VR P C ty' y ys → ys.length = tySize P ty' → x.set p y = some z →
    VR P C ty z (splice cs o ys) ∧ o + ys.length ≤ cs.length := by
  induction hp with
  | nil =>
    intro x y z cs ys h hl hy hly e
    have : y = z := by cases x <;> simpa [V.set] using e
    subst this
    have hl : ys.length = cs.length := by rw [hl, hly]
    rw [splice_all hl]
    exact ⟨hy, by omega⟩
  | @field t fs f ix p' o' ty'' h1 h2 h3 ih =>
    intro x y z cs ys h hl hy hly e
    have main : ∀ {l : List V}, VR P C (.ag t) (.agg l) cs → (V.agg l).set (ix :: p') y = some z → VR P C (.ag t) z (splice cs (f.offset + o') ys) ∧ f.offset + o' + ys.length ≤ cs.length := by
      intro l h e
      cases h with
      | struct k1 k0 k2 k3 k4 =>
        rw [h1] at k1
        obtain rfl := struct_inj k1
        simp only [V.set] at e
        split at e
        · rename_i w hw
          split at e
          · rename_i w' hw'
            injection e with e; subst e
            have hb := k0.1 _ _ h2
            have hl : (seg cs f.offset (tySize P (tyOf P f.type))).length = _ := seg_length (c := cs) (by rw [k2]; exact hb)
            obtain ⟨r1, r2⟩ := ih (k4 _ _ w h2 hw) hl hy hly hw'
            rw [hl] at r2
            refine ⟨.struct h1 k0 (by rw [splice_length (by omega), k2]) (by simp [k3]) (fun i g d hf hd => ?_), by omega⟩
            by_cases hi : i = ix
            · subst hi
              rw [h2] at hf; injection hf with hf; subst hf
              rw [List.getElem?_set_self (by have := (List.getElem?_eq_some_iff.1 hw).1; exact this)] at hd
              injection hd with hd; subst hd
              rw [seg_splice_in (by rw [k2]; exact hb) r2]
              exact r1
            · rw [List.getElem?_set_ne (Ne.symm hi)] at hd
              rw [seg_splice_apart (by omega)]
              · exact k4 i g d hf hd
              · rcases Nat.lt_or_gt_of_ne hi with hlt | hgt
                · have := k0.2.1 _ _ _ _ hlt hf h2; omega
                · have := k0.2.1 _ _ _ _ hgt h2 hf; omega
          · cases e
        · cases e
      | array k1 => rw [h1] at k1; cases k1
    cases h with
    | struct k1 k0 k2 k3 k4 => exact main (.struct k1 k0 k2 k3 k4) e
    | array k1 k0 k2 k3 k4 => exact main (.array k1 k0 k2 k3 k4) e
    | d hd _ =>
      cases hd with
      | struct k1 k0 k2 k3 k4 => rw [V.set_d] at e; exact main (VR.opened (.d (.struct k1 k0 k2 k3 k4) rfl)) e
      | array k1 k0 k2 k3 k4 => rw [V.set_d] at e; exact main (VR.opened (.d (.array k1 k0 k2 k3 k4) rfl)) e
    | und _ => simp [V.set] at e
  | @elem t n el ix p' o' ty'' h1 h2 h3 ih =>
    intro x y z cs ys h hl hy hly e
    have main : ∀ {l : List V}, VR P C (.ag t) (.agg l) cs → (V.agg l).set (ix :: p') y = some z → VR P C (.ag t) z (splice cs (ix * tySize P (tyOf P el) + o') ys) ∧ ix * tySize P (tyOf P el) + o' + ys.length ≤ cs.length := by
      intro l h e
      cases h with
      | array k1 k0 k2 k3 k4 =>
        rw [h1] at k1
        obtain ⟨rfl, rfl⟩ := array_inj k1
        simp only [V.set] at e
        split at e
        · rename_i w hw
          split at e
          · rename_i w' hw'
            injection e with e; subst e
            have hb := mul_part (s := tySize P (tyOf P el)) h2
            have hl : (seg cs (ix * tySize P (tyOf P el)) (tySize P (tyOf P el))).length = _ := seg_length (c := cs) (by rw [k2, k0]; exact hb)
            obtain ⟨r1, r2⟩ := ih (k4 _ w hw) hl hy hly hw'
            rw [hl] at r2
            refine ⟨.array h1 k0 (by rw [splice_length (by omega), k2]) (by simp [k3]) (fun i d hd => ?_), by omega⟩
            by_cases hi : i = ix
            · subst hi
              rw [List.getElem?_set_self (by have := (List.getElem?_eq_some_iff.1 hw).1; exact this)] at hd
              injection hd with hd; subst hd
              rw [seg_splice_in (by rw [k2, k0]; exact hb) r2]
              exact r1
            · rw [List.getElem?_set_ne (Ne.symm hi)] at hd
              rw [seg_splice_apart (by omega)]
              · exact k4 i d hd
              · rcases Nat.lt_or_gt_of_ne hi with hlt | hgt
                · have := mul_apart (s := tySize P (tyOf P el)) hlt; omega
                · have := mul_apart (s := tySize P (tyOf P el)) hgt; omega
          · cases e
        · cases e
      | struct k1 => rw [h1] at k1; cases k1
    cases h with
    | struct k1 k0 k2 k3 k4 => exact main (.struct k1 k0 k2 k3 k4) e
    | array k1 k0 k2 k3 k4 => exact main (.array k1 k0 k2 k3 k4) e
    | d hd _ =>
      cases hd with
      | struct k1 k0 k2 k3 k4 => rw [V.set_d] at e; exact main (VR.opened (.d (.struct k1 k0 k2 k3 k4) rfl)) e
      | array k1 k0 k2 k3 k4 => rw [V.set_d] at e; exact main (VR.opened (.d (.array k1 k0 k2 k3 k4) rfl)) e
    | und _ => simp [V.set] at e

theorem storeV_VR {C : Ctx} {ty ty' : Ty} {p : List Nat} {o : Nat} (hp : PathAt P ty p o ty') {x y z : V} {cs ys : List Value} (h : VR P C ty x cs) (hl : cs.length = tySize P ty) (hy : VR P C ty' y ys) (hly : ys.length = tySize P ty') (e : storeV x p y = some z) :
    VR P C ty z (splice cs o ys) ∧ o + ys.length ≤ cs.length := by
  unfold storeV at e
  split at e
  · rename_i d dy hd
    split at e
    · rename_i w hw
      injection e with e; subst e
      obtain ⟨r1, r2⟩ := h.d_inv.set hp (hy.pure hd) hw
      exact ⟨ofD_VR r1, r2⟩
    · cases e
  · exact h.set hp hl hy hly e

theorem mem_seg {c : List Value} {o n j : Nat} {x : Value} (h : c[j]? = some x) (h1 : o ≤ j) (h2 : j < o + n) : x ∈ seg c o n := by
  apply List.mem_of_getElem? (i := j - o)
  rw [seg_getElem?, if_pos (by omega)]
  rw [← h]; congr 1; omega
theorem RD.one {H : Array Obj} {S : Nat → Prop} {ty : Ty} {x : D} {cs : List Value} (h : RD P H S ty x cs) : ∀ c ∈ cs, c.oneCell' = true := by
  induction h with
  | int h => simp [Value.oneCell']
  | bool => simp [Value.oneCell']
  | str => simp [Value.oneCell']
  | nil => simp [Value.oneCell']
  | slice => simp [Value.oneCell']
  | @struct t fs ds cs h1 h0 h2 h3 _ ih =>
    intro c hc
    obtain ⟨j, hj⟩ := List.getElem?_of_mem hc
    have hlt := (List.getElem?_eq_some_iff.1 hj).1
    obtain ⟨i, f, hf, g1, g2⟩ := h0.2.2 j (by omega)
    have hi : i < ds.length := by rw [h3]; exact (Array.getElem?_eq_some_iff.1 hf).1
    exact ih i f ds[i] hf (List.getElem?_eq_getElem hi) c (mem_seg hj g1 g2)
  | @array t n e ds cs h1 h0 h2 h3 _ ih =>
    intro c hc
    obtain ⟨j, hj⟩ := List.getElem?_of_mem hc
    have hlt := (List.getElem?_eq_some_iff.1 hj).1
    generalize hs : tySize P (tyOf P e) = s at *
    have hs0 : 0 < s := by rcases Nat.eq_zero_or_pos s with k | k; subst k; simp at h0; omega; exact k
    have hi : j / s < ds.length := by rw [h3]; exact Nat.div_lt_of_lt_mul (by rw [Nat.mul_comm]; omega)
    have e1 := Nat.div_mul_le_self j s
    have e2 := Nat.lt_div_mul_add hs0 (a := j)
    exact ih (j / s) ds[j / s] (List.getElem?_eq_getElem hi) c (mem_seg hj e1 e2)
theorem VR.one {C : Ctx} {ty : Ty} {v : V} {cs : List Value} (h : VR P C ty v cs) : ∀ c ∈ cs, c.oneCell' = true := by
  induction h with
  | int h => simp [Value.oneCell']
  | bool => simp [Value.oneCell']
  | d h _ => exact h.one
  | @struct t fs ds cs h1 h0 h2 h3 _ ih =>
    intro c hc
    obtain ⟨j, hj⟩ := List.getElem?_of_mem hc
    have hlt := (List.getElem?_eq_some_iff.1 hj).1
    obtain ⟨i, f, hf, g1, g2⟩ := h0.2.2 j (by omega)
    have hi : i < ds.length := by rw [h3]; exact (Array.getElem?_eq_some_iff.1 hf).1
    exact ih i f ds[i] hf (List.getElem?_eq_getElem hi) c (mem_seg hj g1 g2)
  | @array t n e ds cs h1 h0 h2 h3 _ ih =>
    intro c hc
    obtain ⟨j, hj⟩ := List.getElem?_of_mem hc
    have hlt := (List.getElem?_eq_some_iff.1 hj).1
    generalize hs : tySize P (tyOf P e) = s at *
    have hs0 : 0 < s := by rcases Nat.eq_zero_or_pos s with k | k; subst k; simp at h0; omega; exact k
    have hi : j / s < ds.length := by rw [h3]; exact Nat.div_lt_of_lt_mul (by rw [Nat.mul_comm]; omega)
    have e1 := Nat.div_mul_le_self j s
    have e2 := Nat.lt_div_mul_add hs0 (a := j)
    exact ih (j / s) ds[j / s] (List.getElem?_eq_getElem hi) c (mem_seg hj e1 e2)
  | asl h =>
    rcases h with ⟨_, _, rfl⟩ | ⟨_, _, _, _, _, _, rfl, _⟩ <;> simp [Value.oneCell']
  | sl h =>
    obtain ⟨_, _, _, _, ⟨_, _, rfl⟩ | ⟨_, _, _, rfl, _⟩⟩ := h <;> simp [Value.oneCell']
  | ptr h => obtain ⟨_, _, _, _, _, rfl, _⟩ := h; simp [Value.oneCell']
  | rp _ _ _ => simp [Value.oneCell']
  | map _ _ _ => simp [Value.oneCell']
  | clo => simp [Value.oneCell']
  | und h => exact h
theorem VR.len {C : Ctx} {ty : Ty} {v : V} {cs : List Value} (h : VR P C ty v cs) : v = .und ∨ cs.length = tySize P ty := by
  cases h with
  | int h => exact .inr rfl
  | bool => exact .inr rfl
  | d h _ => exact .inr h.length
  | struct h1 h0 h2 h3 h4 => exact .inr h2
  | array h1 h0 h2 h3 h4 => exact .inr h2
  | asl h => exact .inr rfl
  | sl h => exact .inr rfl
  | ptr h => exact .inr rfl
  | rp _ _ _ => exact .inr rfl
  | map _ _ _ => exact .inr rfl
  | clo => exact .inr rfl
  | und h => exact .inl rfl
end Go.Fw
namespace Go.Fw
open Go Go.RowKit
variable {P : Program}

/-- What a function's run begins with: 'B': blocks from here on are its own; 'S0': which of the elder blocks stay for ever. -/
structure Fr where
  B : Nat
  S0 : Nat → Prop
  ft : Nat → List Ty × List Ty × List (Nat × TypeId)
  w0 : World
  /-- Where the function at hand began. -/
  w1 : World
  ρ1 : Nat → Option Loc
  own1 : Nat → Prop
def cx (E : Fr) (H : Array Obj) (own : Nat → Prop) (ρ : Nat → Option Loc) : Ctx where
  H := H
  S := fun b => b < H.size ∧ ¬ own b ∧ (b < E.B → E.S0 b)
  F := fun b => b < H.size ∧ ¬ own b
  ρ := ρ
  ft := E.ft
/-- A world goes on: only own blocks are written, new ones may be there. 'X': what is written, or no more one's own. -/
structure Evo (H H' : Array Obj) (own own' : Nat → Prop) (ρ ρ' : Nat → Option Loc) (X : Nat → Prop) : Prop where
  size : H.size ≤ H'.size
  same : ∀ b, b < H.size → ¬ X b → H'[b]? = H[b]?
  xOwn : ∀ b, X b → own b
  mine : ∀ b, own' b → own b ∨ (H.size ≤ b ∧ b < H'.size)
  keep : ∀ b, own b → ¬ X b → own' b
  locs : ∀ h L, ρ h = some L → ρ' h = some L
theorem Evo.le {E : Fr} {H H' : Array Obj} {own own' : Nat → Prop} {ρ ρ' : Nat → Option Loc} {X : Nat → Prop} (h : Evo H H' own own' ρ ρ' X) : (cx E H own ρ).Le (cx E H' own' ρ') where
  S := fun b ⟨h1, h2, h3⟩ => ⟨Nat.lt_of_lt_of_le h1 h.size, fun ho => by rcases h.mine b ho with k | k; exact h2 k; omega, h3⟩
  F := fun b ⟨h1, h2⟩ => ⟨Nat.lt_of_lt_of_le h1 h.size, fun ho => by rcases h.mine b ho with k | k; exact h2 k; omega⟩
  hS := fun b ⟨h1, h2, _⟩ => h.same b h1 (fun hx => h2 (h.xOwn b hx))
  hF := fun b ⟨h1, h2⟩ => h.same b h1 (fun hx => h2 (h.xOwn b hx))
  ρ := h.locs
  ft := rfl

variable (P) in
def BR (C : Ctx) (own : Nat → Prop) (h : Nat) : Blk → Prop
  | .dead => True
  | .box v => ∃ L b c, C.ρ h = some L ∧ L.blk = some b ∧ L.row = false ∧ own b ∧ C.H[b]? = some (.cells c L.ty (0, 0)) ∧ c.size = tySize P (tyOf P L.ty) ∧ VR P C (tyOf P L.ty) v c.toList
  | .row o l => ∃ L, C.ρ h = some L ∧ L.row = true ∧ ((l = [] ∧ L.blk = none) ∨ ∃ b c te, L.blk = some b ∧ C.H[b]? = some (.cells c te (0, 0)) ∧ c.size = L.size ∧
      L.off + l.length * tySize P (tyOf P L.ty) ≤ c.size ∧ (if o = true then own b else C.S b) ∧
      ∀ (i : Nat) (d : D), l[i]? = some d → RD P C.H C.S (tyOf P L.ty) d (seg c.toList (L.off + i * tySize P (tyOf P L.ty)) (tySize P (tyOf P L.ty))))
  | .mp l => ∃ L r es clock kt et, C.ρ h = some L ∧ L.blk = some r ∧ own r ∧ C.H[r]? = some (.map es clock) ∧ P.underlying L.ty = some (.map kt et) ∧ es.size = l.length ∧ l.Pairwise (fun p q => p.1 ≠ q.1) ∧
      ∀ (i : Nat) (k : D) (v : V), l[i]? = some (k, v) → ∃ e, es[i]? = some e ∧ RD P C.H C.S (tyOf P kt) k e.key.cells.toList ∧ (((tyOf P kt).isAg = true → ∃ cs, e.key = .agg cs) ∧ ((tyOf P kt).isAg = false → e.key.cells = #[e.key])) ∧
        (v = .und ∨ (VR P C (tyOf P et) v e.val.cells.toList ∧ (((tyOf P et).isAg = true → ∃ cs, e.val = .agg cs) ∧ ((tyOf P et).isAg = false → e.val.cells = #[e.val]))))
def Blk.owns : Blk → Bool
  | .box _ => true
  | .row o _ => o
  | .mp _ => true
  | .dead => false

variable (P) in
structure HRel (E : Fr) (g : Nat → Option Blk) (U : Nat → Prop) (H : Array Obj) (ρ : Nat → Option Loc) (own : Nat → Prop) : Prop where
  bnd : ∀ b, own b → E.B ≤ b ∧ b < H.size
  fresh : ∀ h L, ρ h = some L → U h
  blk : ∀ h b, g h = some b → BR P (cx E H own ρ) own h b
  apart : ∀ (h h' : Nat) (x x' : Blk) (L L' : Loc) (b : Nat), g h = some x → g h' = some x' → x.owns = true → x'.owns = true → ρ h = some L → ρ h' = some L' → L.blk = some b → L'.blk = some b → h = h'

/-- A block that nobody touches stands as it stood. -/
theorem BR.persist {E : Fr} {H H' : Array Obj} {own own' : Nat → Prop} {ρ ρ' : Nat → Option Loc} {X : Nat → Prop} (ev : Evo H H' own own' ρ ρ' X) (hlt : ∀ b, own b → b < H.size) {h : Nat} {x : Blk} (hb : BR P (cx E H own ρ) own h x)
    (hx : x.owns = true → ∀ L b, ρ h = some L → L.blk = some b → ¬ X b) : BR P (cx E H' own' ρ') own' h x := by
  have le := ev.le (E := E)
  cases x with
  | dead => trivial
  | box v =>
    obtain ⟨L, b, c, h1, h2, h3, h4, h5, h6, h7⟩ := hb
    have hn := hx rfl L b h1 h2
    exact ⟨L, b, c, ev.locs _ _ h1, h2, h3, ev.keep b h4 hn, (ev.same b (hlt b h4) hn).trans h5, h6, h7.mono le⟩
  | row o l =>
    obtain ⟨L, h1, h2, h3⟩ := hb
    refine ⟨L, ev.locs _ _ h1, h2, ?_⟩
    rcases h3 with h3 | ⟨b, c, te, k1, k2, k3, k4, k5, k6⟩
    · exact .inl h3
    · refine .inr ⟨b, c, te, k1, ?_, k3, k4, ?_, fun i d hd => (k6 i d hd).mono le⟩
      · cases o with
        | true => exact (ev.same b (hlt b k5) (hx rfl L b h1 k1)).trans k2
        | false => exact (le.hS b k5).trans k2
      · cases o with
        | true => exact ev.keep b k5 (hx rfl L b h1 k1)
        | false => exact le.S b k5
  | mp l =>
    obtain ⟨L, r, es, clock, kt, et, h1, h2, h3, h4, h5, h6, h6', h7⟩ := hb
    have hn := hx rfl L r h1 h2
    refine ⟨L, r, es, clock, kt, et, ev.locs _ _ h1, h2, ev.keep r h3 hn, (ev.same r (hlt r h3) hn).trans h4, h5, h6, h6', fun i k v hi => ?_⟩
    obtain ⟨e, e1, e2, e3, e4⟩ := h7 i k v hi
    refine ⟨e, e1, e2.mono le, e3, ?_⟩
    rcases e4 with e4 | ⟨e4, e5⟩
    · exact .inl e4
    · exact .inr ⟨e4.mono le, e5⟩

/-! ### Updates -/
/-- The last that is said of a handle. -/
def ulast : Hp → Nat → Option Blk
  | [], _ => none
  | (k, b) :: u, h => match ulast u h with | some x => some x | none => if k = h then some b else none
theorem hlook_hput (s : Hp) (k : Nat) (b : Blk) (h : Nat) : hlook (hput s k b) h = if k = h then some b else hlook s h := by
  induction s with
  | nil => simp [hput, hlook]
  | cons x s ih =>
    obtain ⟨i, v⟩ := x
    simp only [hput]
    split
    · rename_i e; subst e
      simp only [hlook]
      split <;> rfl
    · rename_i e
      simp only [hlook, ih]
      by_cases h1 : i = h
      · subst h1
        rw [if_pos rfl, if_neg (fun e' => e e'.symm)]
        simp
      · rw [if_neg h1, if_neg h1]
theorem hlook_hputs (u : Hp) : ∀ (s : Hp) (h : Nat), hlook (hputs s u) h = match ulast u h with | some x => some x | none => hlook s h := by
  induction u with
  | nil => intro s h; rfl
  | cons x u ih =>
    obtain ⟨k, b⟩ := x
    intro s h
    simp only [hputs, ih, ulast, hlook_hput]
    cases ulast u h with
    | some y => rfl
    | none => simp only; split <;> rfl
theorem after_g (s : St) (d : Option Nat) (v : V) (u : Hp) (n : Nat) (h : Nat) : (s.after d v u n).g h = match ulast u h with | some x => some x | none => s.g h := by
  simp only [St.after, St.g, hlook_hputs]
  cases ulast u h <;> rfl
theorem ulast_append (u v : Hp) (h : Nat) : ulast (u ++ v) h = match ulast v h with | some x => some x | none => ulast u h := by
  induction u with
  | nil => simp [ulast]; cases ulast v h <;> rfl
  | cons x u ih =>
    obtain ⟨k, b⟩ := x
    simp only [List.cons_append, ulast, ih]
    cases ulast v h <;> rfl

/-- Memory goes on: what 'u' says is so; all else is as it was. -/
theorem HRel.step {E : Fr} {g : Nat → Option Blk} {U U' : Nat → Prop} {H H' : Array Obj} {ρ ρ' : Nat → Option Loc} {own own' : Nat → Prop} {X : Nat → Prop} (hr : HRel P E g U H ρ own) (ev : Evo H H' own own' ρ ρ' X) (hn : ∀ h, U h → U' h) (hB : E.B ≤ H.size)
    {u : Hp} (hX : ∀ b, X b → ∃ h x L, g h = some x ∧ x.owns = true ∧ ρ h = some L ∧ L.blk = some b ∧ ulast u h ≠ none)
    (hfresh : ∀ h L, ρ' h = some L → ρ h = some L ∨ U' h)
    (hu : ∀ h x, ulast u h = some x → BR P (cx E H' own' ρ') own' h x)
    (hap : ∀ (h h' : Nat) (x x' : Blk) (L L' : Loc) (b : Nat), ulast u h = some x → x.owns = true → ρ' h = some L → L.blk = some b → ρ' h' = some L' → L'.blk = some b → x'.owns = true →
      (ulast u h' = some x' ∨ (ulast u h' = none ∧ g h' = some x')) → h = h') :
    HRel P E (fun h => match ulast u h with | some x => some x | none => g h) U' H' ρ' own' where
  bnd := fun b hb => by
    rcases ev.mine b hb with k | k
    · have := hr.bnd b k; exact ⟨this.1, Nat.lt_of_lt_of_le this.2 ev.size⟩
    · exact ⟨Nat.le_trans hB k.1, k.2⟩
  fresh := fun h L hL => by
    rcases hfresh h L hL with k | k
    · exact hn h (hr.fresh h L k)
    · exact k
  blk := fun h b hb => by
    cases hl : ulast u h with
    | some x => simp only [hl] at hb; injection hb with hb; subst hb; exact hu h x hl
    | none =>
      simp only [hl] at hb
      refine (hr.blk h b hb).persist ev (fun b hb => (hr.bnd b hb).2) (fun ho L c hL hc hx => ?_)
      obtain ⟨h', x', L', k1, k2, k3, k4, k5⟩ := hX c hx
      have := hr.apart h h' b x' L L' c hb k1 ho k2 hL k3 hc k4
      subst this
      exact k5 hl
  apart := fun h h' x x' L L' b h1 h2 o1 o2 r1 r2 b1 b2 => by
    cases hl : ulast u h with
    | some y =>
      simp only [hl] at h1; injection h1 with h1; subst h1
      cases hl' : ulast u h' with
      | some y' => simp only [hl'] at h2; injection h2 with h2; subst h2; exact hap h h' _ _ L L' b hl o1 r1 b1 r2 b2 o2 (.inl hl')
      | none => simp only [hl'] at h2; exact hap h h' _ _ L L' b hl o1 r1 b1 r2 b2 o2 (.inr ⟨hl', h2⟩)
    | none =>
      simp only [hl] at h1
      cases hl' : ulast u h' with
      | some y' => simp only [hl'] at h2; injection h2 with h2; subst h2; exact (hap h' h _ _ L' L b hl' o2 r2 b2 r1 b1 o1 (.inr ⟨hl, h1⟩)).symm
      | none =>
        simp only [hl'] at h2
        have e1 : ρ h = some L := by
          have hb := hr.blk h x h1
          cases x with
          | dead => cases o1
          | box v => obtain ⟨L0, _, _, k, _⟩ := hb; rw [ev.locs _ _ k] at r1; exact r1 ▸ k
          | row o l => obtain ⟨L0, k, _⟩ := hb; rw [ev.locs _ _ k] at r1; exact r1 ▸ k
          | mp l => obtain ⟨L0, _, _, _, _, _, k, _⟩ := hb; rw [ev.locs _ _ k] at r1; exact r1 ▸ k
        have e2 : ρ h' = some L' := by
          have hb := hr.blk h' x' h2
          cases x' with
          | dead => cases o2
          | box v => obtain ⟨L0, _, _, k, _⟩ := hb; rw [ev.locs _ _ k] at r2; exact r2 ▸ k
          | row o l => obtain ⟨L0, k, _⟩ := hb; rw [ev.locs _ _ k] at r2; exact r2 ▸ k
          | mp l => obtain ⟨L0, _, _, _, _, _, k, _⟩ := hb; rw [ev.locs _ _ k] at r2; exact r2 ▸ k
        exact hr.apart h h' x x' L L' b h1 h2 o1 o2 e1 e2 b1 b2
end Go.Fw
namespace Go.Fw
open Go Go.RowKit
variable {P : Program}

/-- What a temporary holds: one value, or the results of a call. -/
inductive TTy where
  | o (t : Ty)
  | t (l : List Ty)
  deriving DecidableEq, Inhabited
variable (P) in
def VS (C : Ctx) (ty : Ty) (v : V) (x : Value) : Prop := VR P C ty v x.cells.toList ∧ (ty.isAg = true → ∃ cs, x = .agg cs) ∧ (ty.isAg = false → x.cells = #[x])
variable (P) in
def VT (C : Ctx) (tt : TTy) (v : V) (x : Value) : Prop := v = .und ∨ (v = .tup [] ∧ x = undef) ∨ match tt with
  | .o ty => VS P C ty v x
  | .t l => ∃ vs ws, v = .tup vs ∧ x = .tuple ws ∧ vs.length = l.length ∧ ws.size = l.length ∧ ∀ (i : Nat) (ty : Ty) (v : V) (w : Value), l[i]? = some ty → vs[i]? = some v → ws[i]? = some w → v = .und ∨ VS P C ty v w
theorem VS.mono {C C' : Ctx} (h : C.Le C') {ty : Ty} {v : V} {x : Value} (r : VS P C ty v x) : VS P C' ty v x := ⟨r.1.mono h, r.2⟩
theorem VT.mono {C C' : Ctx} (h : C.Le C') {tt : TTy} {v : V} {x : Value} (r : VT P C tt v x) : VT P C' tt v x := by
  rcases r with r | r | r
  · exact .inl r
  · exact .inr (.inl r)
  · refine .inr (.inr ?_)
    cases tt with
    | o ty => exact VS.mono h r
    | t l =>
      obtain ⟨vs, ws, h1, h2, h3, h4, h5⟩ := r
      refine ⟨vs, ws, h1, h2, h3, h4, fun i ty v w a b c => ?_⟩
      rcases h5 i ty v w a b c with k | k
      · exact .inl k
      · exact .inr (k.mono h)

/-! ### What a standing value is -/
theorem single {x c : Value} (h : x.cells = #[x]) (e : x.cells.toList = [c]) : x = c := by
  rw [h] at e; simpa using e
theorem VS.int {C : Ctx} {ty : Ty} {k : IntKind} {n : Int} {x : Value} (h : VS P C ty (.int k n) x) : ty = .i k ∧ x = .int k n ∧ (Lit.int k n).wf = true := by
  obtain ⟨h1, h2, h3⟩ := h
  generalize hc : x.cells.toList = cs at h1
  cases h1 with
  | int hw => exact ⟨rfl, single (h3 rfl) hc, hw⟩
theorem VS.bool {C : Ctx} {ty : Ty} {b : Bool} {x : Value} (h : VS P C ty (.bool b) x) : ty = .b ∧ x = .bool b := by
  obtain ⟨h1, h2, h3⟩ := h
  generalize hc : x.cells.toList = cs at h1
  cases h1 with
  | bool => exact ⟨rfl, single (h3 rfl) hc⟩
theorem VS.ptr {C : Ctx} {ty : Ty} {h : Nat} {p : List Nat} {x : Value} (hh : VS P C ty (.ptr h p) x) : ∃ e, ty = .pt e ∧ Ptr P C e h p x := by
  obtain ⟨h1, h2, h3⟩ := hh
  generalize hc : x.cells.toList = cs at h1
  cases h1 with
  | ptr hp => exact ⟨_, rfl, by rw [single (h3 rfl) hc]; exact hp⟩
theorem VS.rp {C : Ctx} {ty : Ty} {y : D} {x : Value} (hh : VS P C ty (.rp y) x) : ∃ e b o cs, ty = .pt e ∧ x = .pointer (some ⟨b, o, none⟩) ∧ C.F b ∧ CellsAt C.H b o cs ∧ RD P C.H C.S (tyOf P e) y cs := by
  obtain ⟨h1, h2, h3⟩ := hh
  generalize hc : x.cells.toList = cs at h1
  cases h1 with
  | rp a b c => exact ⟨_, _, _, _, rfl, single (h3 rfl) hc, a, b, c⟩
theorem VS.sl {C : Ctx} {ty : Ty} {n : Bool} {h off len : Nat} {x : Value} (hh : VS P C ty (.sl n h off len) x) : ∃ e, ty = .sl e ∧ Sl P C e n h off len x := by
  obtain ⟨h1, h2, h3⟩ := hh
  generalize hc : x.cells.toList = cs at h1
  cases h1 with
  | sl hp => exact ⟨_, rfl, by rw [single (h3 rfl) hc]; exact hp⟩
theorem VS.asl {C : Ctx} {ty : Ty} {n : Bool} {l : List D} {x : Value} (hh : VS P C ty (.asl n l) x) : ∃ e, ty = .sl e ∧ Asl P C e n l x := by
  obtain ⟨h1, h2, h3⟩ := hh
  generalize hc : x.cells.toList = cs at h1
  cases h1 with
  | asl hp => exact ⟨_, rfl, by rw [single (h3 rfl) hc]; exact hp⟩
theorem Ctx.S_F {E : Fr} {H : Array Obj} {own : Nat → Prop} {ρ : Nat → Option Loc} {b : Nat} (h : (cx E H own ρ).S b) : (cx E H own ρ).F b := ⟨h.1, h.2.1⟩
/-- A slice that is data is one of somebody else's. -/
theorem VS.dsl {E : Fr} {H : Array Obj} {own : Nat → Prop} {ρ : Nat → Option Loc} {ty : Ty} {n : Bool} {l : List D} {x : Value} (hh : VS P (cx E H own ρ) ty (.d (.sl n l)) x) : ∃ e, ty = .sl e ∧ Asl P (cx E H own ρ) e n l x := by
  obtain ⟨h1, h2, h3⟩ := hh
  generalize hc : x.cells.toList = cs at h1
  cases h1 with
  | d hd _ =>
    cases hd with
    | nil => exact ⟨_, rfl, .inl ⟨rfl, rfl, single (h3 rfl) hc⟩⟩
    | slice k1 k2 k3 k4 k5 k6 => exact ⟨_, rfl, .inr ⟨rfl, _, _, _, _, _, single (h3 rfl) hc, k1, k2, k3, fun hl => Ctx.S_F (k4 hl), k5, k6⟩⟩
theorem VS.str {C : Ctx} {v : V} {x : Value} (hh : VS P C .s v x) : v = .und ∨ ∃ l : List UInt8, v = .d (.str l) ∧ l.length ≤ maxLen ∧ x = .string ⟨l.toArray⟩ := by
  obtain ⟨h1, h2, h3⟩ := hh
  generalize hc : x.cells.toList = cs at h1
  cases h1 with
  | d hd _ => cases hd with
    | str hl => exact .inr ⟨_, rfl, hl, single (h3 rfl) hc⟩
  | und => exact .inl rfl
theorem VS.ag {C : Ctx} {t : TypeId} {v : V} {x : Value} (h : VS P C (.ag t) v x) : ∃ cs, x = .agg cs ∧ VR P C (.ag t) v cs.toList := by
  obtain ⟨cs, rfl⟩ := h.2.1 rfl
  exact ⟨cs, rfl, h.1⟩
theorem VS.of_single {C : Ctx} {ty : Ty} {v : V} {x : Value} (h : VR P C ty v [x]) (hn : ty.isAg = false) (h1 : x.oneCell' = true) : VS P C ty v x := by
  have hc : x.cells = #[x] := by cases x <;> first | rfl | (simp [Value.oneCell'] at h1)
  refine And.intro (by rw [hc]; exact h) (And.intro (fun e => ?_) (fun _ => hc))
  rw [hn] at e
  cases e
theorem VS.of_agg {C : Ctx} {t : TypeId} {v : V} {cs : Array Value} (h : VR P C (.ag t) v cs.toList) : VS P C (.ag t) v (.agg cs) := by
  refine And.intro h (And.intro (fun _ => ⟨cs, rfl⟩) (fun e => ?_))
  cases e

/-! ### States -/
def nodup : List Nat → Bool
  | [] => true
  | a :: l => !l.contains a && nodup l
theorem nodup_cons (a : Nat) (l : List Nat) : nodup (a :: l) = true ↔ a ∉ l ∧ nodup l = true := by
  simp [nodup, List.contains_eq_mem]
theorem hput_keys {s : Hp} {k : Nat} {b : Blk} {h : Nat} (hh : h ∈ (hput s k b).map (·.1)) : h ∈ s.map (·.1) ∨ h = k := by
  induction s with
  | nil => simp [hput] at hh; exact .inr hh
  | cons x s ih =>
    obtain ⟨i, v⟩ := x
    simp only [hput] at hh
    split at hh
    · exact .inl hh
    · simp only [List.map_cons, List.mem_cons] at hh ⊢
      rcases hh with hh | hh
      · exact .inl (.inl hh)
      · rcases ih hh with k | k
        · exact .inl (.inr k)
        · exact .inr k
theorem nodup_hput {s : Hp} (hs : nodup (s.map (·.1)) = true) (k : Nat) (b : Blk) : nodup ((hput s k b).map (·.1)) = true := by
  induction s with
  | nil => simp [hput, nodup]
  | cons x s ih =>
    obtain ⟨i, v⟩ := x
    rw [List.map_cons, nodup_cons] at hs
    simp only [hput]
    split
    · rename_i e; subst e
      rw [List.map_cons, nodup_cons]
      exact hs
    · rename_i e
      rw [List.map_cons, nodup_cons]
      refine ⟨fun hh => ?_, ih hs.2⟩
      rcases hput_keys hh with k | k
      · exact hs.1 k
      · exact e k
theorem nodup_hputs : ∀ (u : Hp) {s : Hp}, nodup (s.map (·.1)) = true → nodup ((hputs s u).map (·.1)) = true
  | [], _, hs => hs
  | (k, b) :: u, _, hs => nodup_hputs u (nodup_hput hs k b)
def ltρ (n : Nat) (ρ : Nat → Option Loc) (h : Nat) : Option Loc := if h < n then ρ h else none
variable (P) in
structure RelB (E : Fr) (tys : Nat → TTy) (U : Nat → Prop) (s : St) (a : Act) (w : World) (ρ : Nat → Option Loc) (own : Nat → Prop) : Prop where
  heap : HRel P E s.g U w.heap ρ own
  env : ∀ i, VT P (cx E w.heap own ρ) (tys i) (look s.env i) (a.tmps.getD i undef)
  tail : ∀ β, β ≤ s.base → ∀ h b, hlook s.hp h = none → s.tl h = some b → BR P (cx E E.w1.heap E.own1 (ltρ β E.ρ1)) E.own1 h b → BR P (cx E w.heap own (ltρ β ρ)) own h b
  le : (cx E E.w1.heap E.own1 E.ρ1).Le (cx E w.heap own ρ)
  nd : nodup (s.hp.map (·.1)) = true
  start : ∀ h b, s.tl h = some b → BR P (cx E E.w1.heap E.own1 (ltρ s.base E.ρ1)) E.own1 h b
  dom : ∀ h L, E.ρ1 h = some L → h < s.base
  base : s.base ≤ s.next
  below : Below E.B E.w0 w
  bsize : E.B ≤ w.heap.size
variable (P) in
def Rel (E : Fr) (tys : Nat → TTy) (U : Nat → Prop) (s : St) (a : Act) (w : World) : Prop := ∃ ρ own, RelB P E tys U s a w ρ own

theorem look_put (e : Env) (i : Nat) (v : V) (j : Nat) : look (put e i v) j = if i = j then v else look e j := by
  induction e with
  | nil => simp [put, look]
  | cons x e ih =>
    obtain ⟨k, b⟩ := x
    simp only [put]
    split
    · rename_i h; subst h
      simp only [look]
      split <;> rfl
    · rename_i h
      simp only [look, ih]
      by_cases h1 : k = j
      · subst h1
        rw [if_pos rfl, if_neg (fun h' => h h'.symm)]
        simp
      · rw [if_neg h1, if_neg h1]
theorem getD_set {t : Array Value} {d i : Nat} {x : Value} (h : d < t.size) : (t.setIfInBounds d x).getD i undef = if d = i then x else t.getD i undef := by
  simp only [Array.getD_eq_getD_getElem?, Array.getElem?_setIfInBounds]
  split
  · rename_i e; subst e; simp
  · rfl
theorem env_put {C C' : Ctx} {tys : Nat → TTy} {e : Env} {a : Act} (henv : ∀ i, VT P C (tys i) (look e i) (a.tmps.getD i undef)) (le : C.Le C') {d : Option Nat} {v : V} {x : Value} (hd : ∀ k, d = some k → k < a.tmps.size ∧ VT P C' (tys k) v x) (i : Nat) :
    VT P C' (tys i) (look (putO e d v) i) ((a.put d x).tmps.getD i undef) := by
  cases d with
  | none => exact (henv i).mono le
  | some k =>
    obtain ⟨h1, h2⟩ := hd k rfl
    simp only [putO, look_put, Act.put, getD_set h1]
    split
    · rename_i e; subst e; exact h2
    · exact (henv i).mono le

/-- More handles. -/
def addU (U : Nat → Prop) (n n' : Nat) : Nat → Prop := fun h => U h ∨ (n ≤ h ∧ h < n')
/-- The state goes on. -/
theorem RelB.step {E : Fr} {tys : Nat → TTy} {U : Nat → Prop} {s : St} {a : Act} {w w' : World} {ρ ρ' : Nat → Option Loc} {own own' X : Nat → Prop} (hr : RelB P E tys U s a w ρ own) (ev : Evo w.heap w'.heap own own' ρ ρ' X) {n' : Nat} (hn : s.next ≤ n')
    (hb : w'.os = w.os ∧ w'.tape = w.tape ∧ w'.output = w.output) {u : Hp} (hX : ∀ b, X b → ∃ h x L, s.g h = some x ∧ x.owns = true ∧ ρ h = some L ∧ L.blk = some b ∧ ulast u h ≠ none)
    (hfresh : ∀ h L, ρ' h = some L → ρ h = some L ∨ (s.next ≤ h ∧ h < n'))
    (hu : ∀ h x, ulast u h = some x → BR P (cx E w'.heap own' ρ') own' h x)
    (hap : ∀ (h h' : Nat) (x x' : Blk) (L L' : Loc) (b : Nat), ulast u h = some x → x.owns = true → ρ' h = some L → L.blk = some b → ρ' h' = some L' → L'.blk = some b → x'.owns = true →
      (ulast u h' = some x' ∨ (ulast u h' = none ∧ s.g h' = some x')) → h = h')
    {d : Option Nat} {v : V} {x : Value} (hd : ∀ k, d = some k → k < a.tmps.size ∧ VT P (cx E w'.heap own' ρ') (tys k) v x) :
    RelB P E tys (addU U s.next n') (s.after d v u n') (a.put d x) w' ρ' own' where
  heap := by
    have := hr.heap.step ev (U' := addU U s.next n') (fun h hh => .inl hh) hr.bsize hX (fun h L hL => (hfresh h L hL).imp id (fun k => .inr k)) hu hap
    have e : (s.after d v u n').g = fun h => match ulast u h with | some x => some x | none => s.g h := funext (after_g s d v u n')
    rw [e]; exact this
  env := env_put hr.env ev.le hd
  le := hr.le.trans ev.le
  nd := nodup_hputs u hr.nd
  start := hr.start
  dom := hr.dom
  tail := fun β hβ h b h1 h2 h3 => by
    have h1' : hlook (hputs s.hp u) h = none := h1
    rw [hlook_hputs] at h1'
    cases hl : ulast u h with
    | some y => rw [hl] at h1'; cases h1'
    | none =>
      rw [hl] at h1'
      have hg : s.g h = some b := by simp only [St.g, h1']; exact h2
      have hold := hr.tail β hβ h b h1' h2 h3
      have ev' : Evo w.heap w'.heap own own' (ltρ β ρ) (ltρ β ρ') X := ⟨ev.size, ev.same, ev.xOwn, ev.mine, ev.keep, fun h L e => by
        unfold ltρ at *
        split at e
        · rename_i hl; rw [if_pos hl]; exact ev.locs _ _ e
        · cases e⟩
      refine hold.persist ev' (fun b hb => (hr.heap.bnd b hb).2) (fun ho L c hL hc hx => ?_)
      obtain ⟨h', x', L', k1, k2, k3, k4, k5⟩ := hX c hx
      have hL' : ρ h = some L := by unfold ltρ at hL; split at hL; exact hL; cases hL
      have := hr.heap.apart h h' b x' L L' c hg k1 ho k2 hL' k3 hc k4
      subst this
      exact k5 hl
  base := Nat.le_trans hr.base hn
  below := hr.below.trans ⟨hb.1, hb.2.1, hb.2.2, ev.size, fun k hk => ev.same k (Nat.lt_of_lt_of_le hk hr.bsize) (fun hx => by have := (hr.heap.bnd k (ev.xOwn k hx)).1; omega)⟩
  bsize := Nat.le_trans hr.bsize ev.size
theorem Evo.refl (H : Array Obj) (own : Nat → Prop) (ρ : Nat → Option Loc) : Evo H H own own ρ ρ (fun _ => False) := ⟨Nat.le_refl _, fun _ _ _ => rfl, fun _ h => h.elim, fun _ h => .inl h, fun _ h _ => h, fun _ _ h => h⟩
/-- Nothing but a temporary has turned. -/
theorem addU_self {U : Nat → Prop} {n : Nat} : addU U n n = U := by
  funext h
  unfold addU
  apply propext
  constructor
  · rintro (h | ⟨h1, h2⟩)
    · exact h
    · omega
  · exact .inl
theorem RelB.pure {E : Fr} {tys : Nat → TTy} {U : Nat → Prop} {s : St} {a : Act} {w w' : World} {ρ : Nat → Option Loc} {own : Nat → Prop} (hr : RelB P E tys U s a w ρ own) (hw : w'.heap = w.heap ∧ w'.os = w.os ∧ w'.tape = w.tape ∧ w'.output = w.output)
    {d : Option Nat} {v : V} {x : Value} (hd : ∀ k, d = some k → k < a.tmps.size ∧ VT P (cx E w.heap own ρ) (tys k) v x) : RelB P E tys U (s.after d v [] s.next) (a.put d x) w' ρ own := by
  have ev : Evo w.heap w'.heap own own ρ ρ (fun _ => False) := by rw [hw.1]; exact Evo.refl _ _ _
  have e0 : U = addU U s.next s.next := addU_self.symm
  rw [e0]
  refine hr.step ev (Nat.le_refl _) hw.2 (u := []) (fun _ h => h.elim) (fun h L e => .inl e) (fun h x e => by simp [ulast] at e) (fun h h' x x' L L' b e => by simp [ulast] at e) (fun k hk => ?_)
  rw [hw.1]
  exact hd k hk
end Go.Fw
namespace Go.Fw
open Go Go.RowKit
variable {P : Program}

def constOk : Ty → Value → V → Bool
  | .i k, .int k' n, .int k'' n' => decide (k' = k) && decide (k'' = k) && decide (n = n') && (Lit.int k n).wf
  | .b, .bool a, .bool b => a == b
  | .sl _, .slice none 0 0, .d (.sl true []) => true
  | .s, .string s, .d (.str l) => decide (s.data.toList = l) && decide (l.length ≤ maxLen)
  | _, _, .und => true
  | _, _, _ => false
def opdOk (ft : Nat → List Ty × List Ty × List (Nat × TypeId)) (tys : Nat → TTy) (tt : TTy) : Operand → Opd → Bool
  | .tmp t, .t t' => decide (t = t') && decide (tys t = tt)
  | .const c, .c v => (match tt with
    | .o ty => constOk ty c v
    | .t [] => (match c, v with | .tuple ws, .tup [] => ws.isEmpty | _, .und => true | _, _ => false)
    | _ => (match v with | .und => true | _ => false))
  | .func f, .c (.clo f' [] []) => decide (f = f') && (match tt with | .o (.fn t) => (ft f).2.2.contains (0, t) | _ => false) && (ft f).2.1.isEmpty
  | .global _, .c .und => true
  | _, _ => false
theorem constOk_VS {C : Ctx} {ty : Ty} {c : Value} {v : V} (h : constOk ty c v = true) : v = .und ∨ VS P C ty v c := by
  unfold constOk at h
  split at h
  · rename_i k k' n k'' n'
    simp only [Bool.and_eq_true, decide_eq_true_eq] at h
    obtain ⟨⟨⟨rfl, rfl⟩, rfl⟩, hw⟩ := h
    exact .inr (VS.of_single (.int hw) rfl rfl)
  · simp at h; subst h; exact .inr (VS.of_single .bool rfl rfl)
  · exact .inr (VS.of_single (.d .nil rfl) rfl rfl)
  · rename_i s l
    simp only [Bool.and_eq_true, decide_eq_true_eq] at h
    obtain ⟨rfl, hl⟩ := h
    refine .inr (VS.of_single (.d ?_ rfl) rfl rfl)
    have e : (Value.string s) = .string ⟨s.data.toList.toArray⟩ := by cases s; simp
    rw [e]
    exact .str hl
  · exact .inl rfl
  · cases h
theorem opd_VT {C : Ctx} {tys : Nat → TTy} {tt : TTy} {x : Operand} {k : Opd} {e : Env} {a : Act} (h : opdOk C.ft tys tt x k = true) (henv : ∀ i, VT P C (tys i) (look e i) (a.tmps.getD i undef)) : VT P C tt (val e k) (a.eval x) := by
  unfold opdOk at h
  split at h
  · rename_i t t'
    simp only [Bool.and_eq_true, decide_eq_true_eq] at h
    obtain ⟨rfl, rfl⟩ := h
    exact henv t
  · rename_i c v
    split at h
    · rename_i ty
      rcases constOk_VS (P := P) (C := C) h with k | k
      · exact .inl k
      · exact .inr (.inr k)
    · split at h
      · rename_i ws; exact .inr (.inr ⟨[], ws, rfl, rfl, rfl, by simpa using h, fun i ty v w h1 => by simp at h1⟩)
      · exact .inl rfl
      · cases h
    · split at h
      · exact .inl rfl
      · cases h
  · rename_i f f'
    simp only [Bool.and_eq_true, decide_eq_true_eq, List.isEmpty_iff] at h
    obtain ⟨⟨rfl, ht⟩, hc⟩ := h
    split at ht
    case h_2 => cases ht
    rename_i t
    refine .inr (.inr (VS.of_single (.clo (by simpa using ht) (Nat.zero_le _) (by rw [hc]; rfl) rfl rfl ?_ ?_ ?_ ?_ ?_ ?_) rfl rfl))
    · intro i c h1; simp at h1
    · intro i c h1; simp at h1
    · intro i ty h1; simp at h1
    · intro i ty h1; rw [hc] at h1; simp at h1
    · intro i ty v c h1 h2; simp at h2
    · intro i ty v c h1 h2; simp at h2
  · exact .inl rfl
  · cases h

/-- What a step of one operation comes to. -/
def Goes (P : Program) (E : Fr) (tys : Nat → TTy) (U : Nat → Prop) (s0 : St) (o : Oper) (a : Act) (w : World) (s : St) : Prop :=
  (∃ x w', (execOp a.eval o).run P w = .ok (.value x) w' ∧ Rel P E tys (addU U s0.next s.next) s (a.put o.dst x) w') ∨ ∃ w', (execOp a.eval o).run P w = .ok .skip w' ∧ Rel P E tys (addU U s0.next s.next) s (a.put o.dst undef) w'

section
variable {E : Fr} {tys : Nat → TTy} {U : Nat → Prop} {s : St} {a : Act} {w : World} {o : Oper}
theorem Goes.pure (hr : Rel P E tys U s a w) {x : Value} (hx : (execOp a.eval o).run P w = .ok (.value x) w) {d : Nat} (hd : o.dst = some d) (hlt : d < a.tmps.size) {v : V}
    (hv : ∀ ρ own, RelB P E tys U s a w ρ own → VT P (cx E w.heap own ρ) (tys d) v x) : Goes P E tys U s o a w (s.after (some d) v [] s.next) := by
  obtain ⟨ρ, own, hb⟩ := hr
  have e0 : addU U s.next (s.after (some d) v [] s.next).next = U := addU_self
  refine .inl ⟨x, w, hx, ?_⟩
  rw [e0]
  refine ⟨ρ, own, ?_⟩
  rw [hd]
  exact hb.pure ⟨rfl, rfl, rfl, rfl⟩ (fun k hk => by injection hk with hk; subst hk; exact ⟨hlt, hv ρ own hb⟩)

theorem exec_value {x : Operand} (h : o.op = .move x ∨ o.op = .assign x) : (execOp a.eval o).run P w = .ok (.value (a.eval x)) w := by
  rcases h with h | h <;> simp [execOp, h, Sem.run_pure]
theorem exec_run {f : Sem Value} (h : execOp a.eval o = (do pure (.value (← f)))) {x : Value} {w' : World} (hf : f.run P w = .ok x w') : (execOp a.eval o).run P w = .ok (.value x) w' := by
  rw [h, Sem.run_bind, hf]; rfl

theorem V.ne_und {v : V} (h : v.isUnd = false) : v ≠ .und := fun e => by subst e; cases h
theorem V.notUnd {v : V} (h1 : v ≠ .und) (h2 : ∀ l, v ≠ .tup l) : v.isUnd = false := by
  cases v <;> first | rfl | exact absurd rfl h1 | exact absurd rfl (h2 _)
theorem VT.vs {C : Ctx} {ty : Ty} {v : V} {x : Value} (h : VT P C (.o ty) v x) (hn : v.isUnd = false) : VS P C ty v x := by
  rcases h with h | h | h
  · subst h; cases hn
  · obtain ⟨h, _⟩ := h; subst h; cases hn
  · exact h
theorem VT.mk {C : Ctx} {ty : Ty} {v : V} {x : Value} (h : VS P C ty v x) : VT P C (.o ty) v x := .inr (.inr h)
theorem VS.mk_int {C : Ctx} {k : IntKind} {n : Int} (h : (Lit.int k n).wf = true) : VS P C (.i k) (.int k n) (.int k n) := VS.of_single (.int h) rfl rfl
theorem VS.mk_bool {C : Ctx} {b : Bool} : VS P C .b (.bool b) (.bool b) := VS.of_single .bool rfl rfl
theorem VT.int {C : Ctx} {tt : TTy} {k : IntKind} {n : Int} {x : Value} (h : VT P C tt (.int k n) x) : tt = .o (.i k) ∧ x = .int k n ∧ (Lit.int k n).wf = true := by
  rcases h with h | ⟨h, _⟩ | h
  · cases h
  · cases h
  · cases tt with
    | o ty => obtain ⟨rfl, h2, h3⟩ := VS.int h; exact ⟨rfl, h2, h3⟩
    | t l => obtain ⟨vs, ws, h, _⟩ := h; cases h
theorem VT.bool {C : Ctx} {tt : TTy} {b : Bool} {x : Value} (h : VT P C tt (.bool b) x) : tt = .o .b ∧ x = .bool b := by
  rcases h with h | ⟨h, _⟩ | h
  · cases h
  · cases h
  · cases tt with
    | o ty => obtain ⟨rfl, h2⟩ := VS.bool h; exact ⟨rfl, h2⟩
    | t l => obtain ⟨vs, ws, h, _⟩ := h; cases h

theorem wf_rem {k : IntKind} {x y : Int} (h : (Lit.int k x).wf = true) : (Lit.int k (x.tmod y)).wf = true := by
  simp only [Lit.wf, Bool.and_eq_true, decide_eq_true_eq] at h ⊢
  have h1 : -(x.natAbs : Int) ≤ x.tmod y ∧ x.tmod y ≤ x.natAbs := by
    have : (x.tmod y).natAbs ≤ x.natAbs := by rw [Int.natAbs_tmod]; exact Nat.mod_le _ _
    omega
  have h2 : 0 ≤ x → 0 ≤ x.tmod y := fun h => Int.tmod_nonneg _ h
  have h3 : x ≤ 0 → x.tmod y ≤ 0 := fun h => by
    have := Int.tmod_nonneg (a := -x) y (by omega)
    rw [Int.neg_tmod] at this
    omega
  have h4 : k.min ≤ 0 := by cases k <;> simp [IntKind.min, IntKind.signed, IntKind.bits]
  have h5 : 0 ≤ k.max := by cases k <;> simp [IntKind.max, IntKind.signed, IntKind.bits]
  omega
theorem wf_shr {k : IntKind} {x : Int} {n : Nat} (h : (Lit.int k x).wf = true) : (Lit.int k (x / 2 ^ n)).wf = true := by
  simp only [Lit.wf, Bool.and_eq_true, decide_eq_true_eq] at h ⊢
  have hp : (0 : Int) < 2 ^ n := Int.pow_pos (by decide)
  have h4 : k.min ≤ 0 := by cases k <;> simp [IntKind.min, IntKind.signed, IntKind.bits]
  have h5 : 0 ≤ k.max := by cases k <;> simp [IntKind.max, IntKind.signed, IntKind.bits]
  rcases Int.lt_or_le x 0 with hx | hx
  · have a1 : x ≤ x / 2 ^ n := by
      rw [Int.le_ediv_iff_mul_le hp]
      have : x * (2 ^ n - 1) ≤ 0 := Int.mul_nonpos_of_nonpos_of_nonneg (by omega) (by omega)
      rw [Int.mul_sub] at this
      omega
    have a2 : x / 2 ^ n ≤ 0 := by
      have := Int.ediv_le_ediv hp (Int.le_of_lt hx)
      simpa using this
    omega
  · have a1 : x / 2 ^ n ≤ x := Int.ediv_le_self _ hx
    have a2 : 0 ≤ x / 2 ^ n := Int.ediv_nonneg hx (Int.le_of_lt hp)
    omega

/-- Arithmetic on whole numbers. -/
theorem arith_run {op : BinOp} {k : IntKind} {m n : Int} {v : V} {xt : TypeId} (hop : op ≠ .shl ∧ op ≠ .shr) (hm : (Lit.int k m).wf = true) (h : arith op k m n = some v) :
    ∃ x, (binOp op xt (.int k m) (.int k n)).run P w = .ok x w ∧ ((∃ r, v = .int k r ∧ x = .int k r ∧ (Lit.int k r).wf = true) ∨ ∃ b, v = .bool b ∧ x = .bool b) := by
  cases op <;> simp only [arith] at h
  case shl => exact absurd rfl hop.1
  case shr => exact absurd rfl hop.2
  case add => injection h with h; subst h; exact ⟨_, by rw [binOp_add]; rfl, .inl ⟨_, rfl, rfl, wf_wrap _ _⟩⟩
  case sub => injection h with h; subst h; exact ⟨_, by rw [binOp_sub]; rfl, .inl ⟨_, rfl, rfl, wf_wrap _ _⟩⟩
  case mul => injection h with h; subst h; exact ⟨_, by rw [binOp_mul]; rfl, .inl ⟨_, rfl, rfl, wf_wrap _ _⟩⟩
  case quo =>
    split at h
    · cases h
    · rename_i hn
      injection h with h; subst h
      exact ⟨_, by rw [binOp_quo]; simp [Op.intDiv, hn], .inl ⟨_, rfl, rfl, wf_wrap _ _⟩⟩
  case rem =>
    split at h
    · cases h
    · rename_i hn
      injection h with h; subst h
      exact ⟨_, by rw [binOp_rem]; simp [Op.intDiv, hn], .inl ⟨_, rfl, rfl, wf_rem hm⟩⟩
  case and => injection h with h; subst h; exact ⟨_, by rw [binOp_and]; rfl, .inl ⟨_, rfl, rfl, wf_bits _ _ _ _⟩⟩
  case or => injection h with h; subst h; exact ⟨_, by rw [binOp_or]; rfl, .inl ⟨_, rfl, rfl, wf_bits _ _ _ _⟩⟩
  case xor => injection h with h; subst h; exact ⟨_, by rw [binOp_xor]; rfl, .inl ⟨_, rfl, rfl, wf_bits _ _ _ _⟩⟩
  case andNot => injection h with h; subst h; exact ⟨_, by rw [binOp_andNot]; rfl, .inl ⟨_, rfl, rfl, wf_bits _ _ _ _⟩⟩
  case eql => injection h with h; subst h; exact ⟨_, by rw [binOp_eql]; rfl, .inr ⟨_, rfl, by rw [Bool.beq_eq_decide_eq]⟩⟩
  case neq => injection h with h; subst h; exact ⟨_, by rw [binOp_neq]; rfl, .inr ⟨_, rfl, by simp [bne, Bool.beq_eq_decide_eq]⟩⟩
  case lss => injection h with h; subst h; exact ⟨_, by rw [binOp_lss]; rfl, .inr ⟨_, rfl, rfl⟩⟩
  case leq => injection h with h; subst h; exact ⟨_, by rw [binOp_leq]; rfl, .inr ⟨_, rfl, rfl⟩⟩
  case gtr => injection h with h; subst h; exact ⟨_, by rw [binOp_gtr]; rfl, .inr ⟨_, rfl, rfl⟩⟩
  case geq => injection h with h; subst h; exact ⟨_, by rw [binOp_geq]; rfl, .inr ⟨_, rfl, rfl⟩⟩
theorem shift_run {op : BinOp} {k yk : IntKind} {m n : Int} {v : V} {xt : TypeId} (hop : op = .shl ∨ op = .shr) (hm : (Lit.int k m).wf = true) (h : shiftV op k m n = some v) :
    ∃ r, (binOp op xt (.int k m) (.int yk n)).run P w = .ok (.int k r) w ∧ v = .int k r ∧ (Lit.int k r).wf = true := by
  unfold shiftV at h
  split at h
  · cases h
  · rename_i hn
    rcases hop with rfl | rfl <;> simp only at h <;> injection h with h <;> subst h
    · exact ⟨_, by rw [binOp_shl]; simp only [Op.shift, hn, if_false]; rfl, rfl, wf_wrap _ _⟩
    · refine ⟨_, ?_, rfl, wf_shr hm⟩
      rw [binOp_shr]
      simp only [Op.shift, hn, if_false]
      have hp : (0 : Int) ≤ 2 ^ min n.toNat k.bits := Int.pow_nonneg (by decide)
      rw [Int.fdiv_eq_ediv_of_nonneg _ hp]
      rfl
end
end Go.Fw
namespace Go.Fw
open Go Go.RowKit
variable {P : Program}

variable (P) in
/-- A type whose size is as its shape says. -/
def tyGood (t : TypeId) : Bool := (P.info? t).isSome && decide (P.cellsOf t = tySize P (tyOf P t)) && decide (tyOf P t ≠ .no) && (P.underlying t).isSome
theorem tyGood.size {t : TypeId} (h : tyGood P t = true) (w : World) : (sizeOf t).run P w = .ok (tySize P (tyOf P t)) w := by
  simp only [tyGood, Bool.and_eq_true, decide_eq_true_eq] at h
  obtain ⟨⟨⟨h1, h2⟩, h3⟩, h4⟩ := h
  rw [← h2]
  cases hi : P.info? t with
  | none => rw [hi] at h1; cases h1
  | some i => simp [sizeOf, typeInfo, hi, Program.cellsOf]
theorem tyGood.agg {t : TypeId} (h : tyGood P t = true) (w : World) : (isAgg t).run P w = .ok (tyOf P t).isAg w := by
  simp only [tyGood, Bool.and_eq_true, decide_eq_true_eq] at h
  obtain ⟨⟨⟨h1, h2⟩, h3⟩, h4⟩ := h
  cases hu : P.underlying t with
  | none => rw [hu] at h4; cases h4
  | some d =>
    unfold isAgg
    rw [Sem.run_bind, run_underlying hu w]
    simp only [tyOf, hu] at h3 ⊢
    cases d <;> first | rfl | (simp at h3)
theorem tyOf_struct {t : TypeId} {fs : Array Field} (h : P.underlying t = some (.struct fs)) : tyOf P t = .ag t := by simp [tyOf, h]
theorem tyOf_array {t : TypeId} {n : Nat} {e : TypeId} (h : P.underlying t = some (.array n e)) : tyOf P t = .ag t := by simp [tyOf, h]

section
variable {E : Fr} {tys : Nat → TTy} {U : Nat → Prop} {s : St} {a : Act} {w : World} {o : Oper}

theorem go_mv {d : Nat} {x : Opd} {y : Operand} {v : V} {u : Hp} {n : Nat} (hr : Rel P E tys U s a w) (ho : o.op = .move y ∨ o.op = .assign y) (hd : o.dst = some d) (hlt : d < a.tmps.size) (hc : opdOk E.ft tys (tys d) y x = true)
    (he : eff (.mv d x) s.env s.g s.next = some (v, u, n)) : Goes P E tys U s o a w (s.after (some d) v u n) := by
  simp only [eff] at he; injection he with he; injection he with h1 h2; injection h2 with h2 h3; subst h1 h2 h3
  exact Goes.pure hr (exec_value ho) hd hlt (fun ρ own hb => opd_VT (C := cx E w.heap own ρ) hc hb.env)

theorem go_pick {d : Nat} {x0 x1 x2 : Opd} {y0 y1 y2 : Operand} {v : V} {u : Hp} {n : Nat} (hr : Rel P E tys U s a w) (ho : o.op = .pick y0 y1 y2) (hd : o.dst = some d) (hlt : d < a.tmps.size)
    (hc0 : opdOk E.ft tys (.o .b) y0 x0 = true) (hc1 : opdOk E.ft tys (tys d) y1 x1 = true) (hc2 : opdOk E.ft tys (tys d) y2 x2 = true)
    (he : eff (.pick d x0 x1 x2) s.env s.g s.next = some (v, u, n)) : Goes P E tys U s o a w (s.after (some d) v u n) := by
  simp only [eff] at he
  split at he
  · rename_i c hcv
    injection he with he; injection he with h1 h2; injection h2 with h2 h3; subst h1 h2 h3
    have hcb : a.eval y0 = .bool c := by
      obtain ⟨ρ, own, hb⟩ := hr
      have := opd_VT (P := P) (C := cx E w.heap own ρ) hc0 hb.env
      rw [hcv] at this
      exact this.bool.2
    refine Goes.pure hr (x := if c then a.eval y1 else a.eval y2) (by simp [execOp, ho, hcb, asBool, Sem.run_pure]) hd hlt (fun ρ own hb => ?_)
    cases c
    · exact opd_VT (C := cx E w.heap own ρ) hc2 hb.env
    · exact opd_VT (C := cx E w.heap own ρ) hc1 hb.env
  · cases he

theorem go_un {d : Nat} {op : UnOp} {x : Opd} {y : Operand} {xt : TypeId} {v : V} {u : Hp} {n : Nat} {ty : Ty} (hr : Rel P E tys U s a w) (ho : o.op = .unOp op xt y) (hd : o.dst = some d) (hlt : d < a.tmps.size)
    (hc : opdOk E.ft tys (.o ty) y x = true) (hty : tys d = .o ty) (he : eff (.un d op x) s.env s.g s.next = some (v, u, n)) : Goes P E tys U s o a w (s.after (some d) v u n) := by
  simp only [eff] at he
  split at he
  · rename_i v' hv
    injection he with he; injection he with h1 h2; injection h2 with h2 h3; subst h1 h2 h3
    unfold unV at hv
    split at hv
    · rename_i b hx
      injection hv with hv; subst hv
      obtain ⟨ρ0, own0, hb0⟩ := id hr
      have hy := opd_VT (P := P) (C := cx E w.heap own0 ρ0) hc hb0.env
      rw [hx] at hy
      have hyb := hy.bool
      injection hyb.1 with ht; subst ht
      exact Goes.pure hr (x := .bool (!b)) (exec_run (f := Op.unary .not (a.eval y)) (by simp [execOp, ho]) (by rw [hyb.2]; rfl)) hd hlt (fun ρ own hb => by rw [hty]; exact .mk VS.mk_bool)
    · rename_i k m hx
      injection hv with hv; subst hv
      obtain ⟨ρ0, own0, hb0⟩ := id hr
      have hy := opd_VT (P := P) (C := cx E w.heap own0 ρ0) hc hb0.env
      rw [hx] at hy
      have hyb := hy.int
      injection hyb.1 with ht; subst ht
      exact Goes.pure hr (x := .int k (k.wrap (0 - m))) (exec_run (f := Op.unary .neg (a.eval y)) (by simp [execOp, ho]) (by rw [hyb.2.1]; rfl)) hd hlt (fun ρ own hb => by rw [hty]; exact .mk (VS.mk_int (wf_wrap _ _)))
    · rename_i k m hx
      injection hv with hv; subst hv
      obtain ⟨ρ0, own0, hb0⟩ := id hr
      have hy := opd_VT (P := P) (C := cx E w.heap own0 ρ0) hc hb0.env
      rw [hx] at hy
      have hyb := hy.int
      injection hyb.1 with ht; subst ht
      exact Goes.pure hr (x := .int k (bits .xor k (if k.signed then -1 else k.max) m)) (exec_run (f := Op.unary .xor (a.eval y)) (by simp [execOp, ho]) (by rw [hyb.2.1]; rfl)) hd hlt (fun ρ own hb => by rw [hty]; exact .mk (VS.mk_int (wf_bits _ _ _ _)))
    · cases hv
  · cases he

theorem go_cv {d : Nat} {k : IntKind} {x : Opd} {y : Operand} {src dst : TypeId} {v : V} {u : Hp} {n : Nat} {k0 : IntKind} (hr : Rel P E tys U s a w) (ho : o.op = .convert src dst y) (hd : o.dst = some d) (hlt : d < a.tmps.size)
    (hc : opdOk E.ft tys (.o (.i k0)) y x = true) (hty : tys d = .o (.i k)) (hs : (P.underlying src).isSome = true) (hk : P.underlying dst = some (.int k)) (he : eff (.cv d k x) s.env s.g s.next = some (v, u, n)) : Goes P E tys U s o a w (s.after (some d) v u n) := by
  simp only [eff] at he
  split at he
  · rename_i k1 m hx
    injection he with he; injection he with h1 h2; injection h2 with h2 h3; subst h1 h2 h3
    obtain ⟨ρ0, own0, hb0⟩ := id hr
    have hy := opd_VT (P := P) (C := cx E w.heap own0 ρ0) hc hb0.env
    rw [hx] at hy
    have hyb := hy.int
    refine Goes.pure hr (x := .int k (k.wrap m)) (exec_run (f := convert src dst (a.eval y)) (by simp [execOp, ho]) ?_) hd hlt (fun ρ own hb => by rw [hty]; exact .mk (VS.mk_int (wf_wrap _ _)))
    rw [hyb.2.1]
    cases hu : P.underlying src with
    | none => rw [hu] at hs; cases hs
    | some ds =>
      simp only [convert, Sem.run_bind, run_underlying hu w, Result.andThen_ok, run_underlying hk w]
      cases ds <;> rfl
  · cases he

theorem go_ex {d i : Nat} {x : Opd} {y : Operand} {l : List Ty} {ty : Ty} {v : V} {u : Hp} {n : Nat} (hr : Rel P E tys U s a w) (ho : o.op = .extract y i) (hd : o.dst = some d) (hlt : d < a.tmps.size)
    (hc : opdOk E.ft tys (.t l) y x = true) (hi : l[i]? = some ty) (hty : tys d = .o ty) (he : eff (.ex d x i) s.env s.g s.next = some (v, u, n)) : Goes P E tys U s o a w (s.after (some d) v u n) := by
  simp only [eff] at he
  split at he
  · rename_i vs hx
    split at he
    · rename_i v' hv
      injection he with he; injection he with h1 h2; injection h2 with h2 h3; subst h1 h2 h3
      have key : ∀ ρ own, RelB P E tys U s a w ρ own → ∃ ws, a.eval y = .tuple ws ∧ ws.size = l.length ∧ ∀ wv, ws[i]? = some wv → VT P (cx E w.heap own ρ) (.o ty) v' wv := by
        intro ρ own hb
        have hy := opd_VT (P := P) (C := cx E w.heap own ρ) hc hb.env
        rw [hx] at hy
        rcases hy with hy | ⟨hy, _⟩ | ⟨vs', ws, e1, e2, e3, e4, e5⟩
        · cases hy
        · injection hy with hy; subst hy; simp at hv
        · injection e1 with e1; subst e1
          exact ⟨ws, e2, e4, fun wv hw => (e5 i ty v' wv hi hv hw).imp id .inr⟩
      obtain ⟨ρ0, own0, hb0⟩ := id hr
      obtain ⟨ws, h1, h2, h3⟩ := key ρ0 own0 hb0
      have hlt' : i < ws.size := by rw [h2]; exact (List.getElem?_eq_some_iff.1 hi).1
      have hw : ws[i]? = some ws[i] := by simp [hlt']
      refine Goes.pure hr (x := ws[i]) (exec_run (f := Instr.extract (a.eval y) i) (by simp [execOp, ho]) (by simp only [h1, Instr.extract, hw]; rfl)) hd hlt (fun ρ own hb => ?_)
      obtain ⟨ws', k1, k2, k3⟩ := key ρ own hb
      rw [h1] at k1
      injection k1 with k1; subst k1
      rw [hty]
      exact k3 _ hw
    · cases he
  · cases he

theorem go_nck {d : Nat} {x : Opd} {y : Operand} {v : V} {u : Hp} {n : Nat} (hr : Rel P E tys U s a w) (ho : o.op = .nilCheck y) (hd : o.dst = some d) (hlt : d < a.tmps.size) (hc : opdOk E.ft tys (tys d) y x = true)
    (he : eff (.nck d x) s.env s.g s.next = some (v, u, n)) : Goes P E tys U s o a w (s.after (some d) v u n) := by
  obtain ⟨ρ0, own0, hb0⟩ := id hr
  have hy := opd_VT (P := P) (C := cx E w.heap own0 ρ0) hc hb0.env
  simp only [eff] at he
  have fin : ∀ v', val s.env x = v' → (execOp a.eval o).run P w = .ok (.value (a.eval y)) w → some (v', ([] : Hp), s.next) = some (v, u, n) → Goes P E tys U s o a w (s.after (some d) v u n) := by
    intro v' hv hx he
    injection he with he; injection he with h1 h2; injection h2 with h2 h3; subst h1 h2 h3
    exact Goes.pure hr hx hd hlt (fun ρ own hb => by rw [← hv]; exact opd_VT (C := cx E w.heap own ρ) hc hb.env)
  split at he
  · rename_i h p hx
    rw [hx] at hy
    rcases hy with hy | ⟨hy, _⟩ | hy
    · cases hy
    · cases hy
    · cases ht : tys d with
      | t l => rw [ht] at hy; obtain ⟨_, _, k, _⟩ := hy; cases k
      | o ty =>
        rw [ht] at hy
        obtain ⟨e, _, _, _, _, _, _, hp, _⟩ := VS.ptr hy
        exact fin _ hx (by simp [execOp, ho, hp]) he
  · rename_i z hx
    rw [hx] at hy
    rcases hy with hy | ⟨hy, _⟩ | hy
    · cases hy
    · cases hy
    · cases ht : tys d with
      | t l => rw [ht] at hy; obtain ⟨_, _, k, _⟩ := hy; cases k
      | o ty =>
        rw [ht] at hy
        obtain ⟨e, b, oo, cs, _, hp, _⟩ := VS.rp hy
        exact fin _ hx (by simp [execOp, ho, hp]) he
  · rename_i f fi ca hx
    rw [hx] at hy
    rcases hy with hy | ⟨hy, _⟩ | hy
    · cases hy
    · cases hy
    · cases ht : tys d with
      | t l => rw [ht] at hy; obtain ⟨_, _, k, _⟩ := hy; cases k
      | o ty =>
        rw [ht] at hy
        obtain ⟨h1, h2, h3⟩ := hy
        generalize hcs : (a.eval y).cells.toList = cs at h1
        cases h1 with
        | clo =>
          have := single (h3 rfl) hcs
          exact fin _ hx (by simp [execOp, ho, this]) he
  · cases he

theorem go_len {d : Nat} {x : Opd} {y : Operand} {t e : TypeId} {v : V} {u : Hp} {n : Nat} (hr : Rel P E tys U s a w) (ho : o.op = .call { callee := .builtin .len, args := #[y], argTypes := #[t] }) (hd : o.dst = some d) (hlt : d < a.tmps.size)
    (hu : P.underlying t = some (.slice e)) (hc : opdOk E.ft tys (.o (.sl e)) y x = true) (hty : tys d = .o (.i .i64)) (he : eff (.len d x) s.env s.g s.next = some (v, u, n)) : Goes P E tys U s o a w (s.after (some d) v u n) := by
  simp only [eff] at he
  split at he
  · rename_i m hm
    injection he with he; injection he with h1 h2; injection h2 with h2 h3; subst h1 h2 h3
    obtain ⟨ρ0, own0, hb0⟩ := id hr
    have hy := opd_VT (P := P) (C := cx E w.heap own0 ρ0) hc hb0.env
    have key : ∃ ad len cap, a.eval y = .slice ad len cap ∧ m = (len : Int) ∧ len ≤ maxLen := by
      unfold lenV at hm
      split at hm
      · rename_i nl l hx
        injection hm with hm; subst hm
        rw [hx] at hy
        obtain ⟨e', _, h⟩ := (hy.vs rfl).asl
        rcases h with ⟨_, rfl, h⟩ | ⟨_, b, oo, cap, sp, g, h, h1, h2, _⟩
        · exact ⟨_, _, _, h, rfl, by simp⟩
        · exact ⟨_, _, _, h, rfl, by omega⟩
      · rename_i nl l hx
        injection hm with hm; subst hm
        rw [hx] at hy
        obtain ⟨e', _, h⟩ := (hy.vs rfl).dsl
        rcases h with ⟨_, rfl, h⟩ | ⟨_, b, oo, cap, sp, g, h, h1, h2, _⟩
        · exact ⟨_, _, _, h, rfl, by simp⟩
        · exact ⟨_, _, _, h, rfl, by omega⟩
      · rename_i nl h off len hx
        injection hm with hm; subst hm
        rw [hx] at hy
        obtain ⟨e', _, L, _, _, _, h⟩ := (hy.vs rfl).sl
        rcases h with ⟨_, rfl, h⟩ | ⟨_, ad, cap, h, h1, h2, _⟩
        · exact ⟨_, _, _, h, rfl, by simp⟩
        · exact ⟨_, _, _, h, rfl, by omega⟩
      · cases hm
    obtain ⟨ad, len, cap, h1, h2, h3⟩ := key
    subst h2
    unfold maxLen at h3
    refine Goes.pure hr (x := .int .i64 (len : Int)) ?_ hd hlt (fun ρ own hb => by rw [hty]; exact .mk (VS.mk_int (by simp [Lit.wf, IntKind.min, IntKind.max, IntKind.signed, IntKind.bits]; omega)))
    simp [execOp, ho, resolve, invoke, builtin, Builtin.len_, h1, run_underlying hu, goInt]
  · cases he

theorem mostV_run {k : IntKind} {gt : Bool} : ∀ (l : List V) (xs : List Value) (m : Int) (v : V), (Lit.int k m).wf = true → (∀ (i : Nat) (v : V) (x : Value), l[i]? = some v → xs[i]? = some x → ∀ k' z, v = .int k' z → x = .int k' z ∧ (Lit.int k' z).wf = true) → xs.length = l.length →
    mostV gt k m l = some v → ∃ r, (xs.foldlM (if gt then Builtin.max2 else Builtin.min2) (.int k m) : Sem Value).run P w = .ok (.int k r) w ∧ v = .int k r ∧ (Lit.int k r).wf = true
  | [], xs, m, v, hm, _, hl, h => by
    simp only [mostV] at h; injection h with h; subst h
    have : xs = [] := List.eq_nil_of_length_eq_zero hl
    subst this
    exact ⟨m, by simp [List.foldlM], rfl, hm⟩
  | x :: l, xs, m, v, hm, hx, hl, h => by
    cases xs with
    | nil => simp at hl
    | cons y ys =>
      unfold mostV at h
      split at h
      · rename_i heq; cases heq
      · rename_i k' b l' heq
        injection heq with e1 e2; subst e1 e2
        split at h
        · rename_i hk; subst hk
          obtain ⟨rfl, hw⟩ := hx 0 _ y (by simp) (by simp) k b rfl
          have hm' : (Lit.int k (if gt then (if m < b then b else m) else (if b < m then b else m))).wf = true := by
            split <;> split <;> assumption
          obtain ⟨r, h1, h2, h3⟩ := mostV_run l ys _ v hm' (fun i v x a b => hx (i + 1) v x (by simpa using a) (by simpa using b)) (by simpa using hl) h
          refine ⟨r, ?_, h2, h3⟩
          rw [← h1]
          cases gt <;> simp [List.foldlM_cons, Builtin.max2, Builtin.min2]
        · cases h
      · cases h
end
end Go.Fw
namespace Go.Fw
open Go Go.RowKit
variable {P : Program}

theorem PathAt.field' {ty : Ty} {p : List Nat} {o : Nat} {t0 : Ty} (h : PathAt P ty p o t0) : ∀ {t : TypeId} {fs : Array Field} {f : Field} {i : Nat}, t0 = .ag t → P.underlying t = some (.struct fs) → fs[i]? = some f → PathAt P ty (p ++ [i]) (o + f.offset) (tyOf P f.type) := by
  induction h with
  | nil =>
    intro t fs f i e h1 h2
    subst e
    have := PathAt.field h1 h2 (PathAt.nil (P := P) (ty := tyOf P f.type))
    simpa using this
  | field k1 k2 _ ih =>
    intro t fs f i e h1 h2
    have := PathAt.field k1 k2 (ih e h1 h2)
    rw [Nat.add_assoc]; exact this
  | elem k1 k2 _ ih =>
    intro t fs f i e h1 h2
    have := PathAt.elem k1 k2 (ih e h1 h2)
    rw [Nat.add_assoc]; exact this
theorem PathAt.elem' {ty : Ty} {p : List Nat} {o : Nat} {t0 : Ty} (h : PathAt P ty p o t0) : ∀ {t : TypeId} {n : Nat} {el : TypeId} {i : Nat}, t0 = .ag t → P.underlying t = some (.array n el) → i < n → PathAt P ty (p ++ [i]) (o + i * tySize P (tyOf P el)) (tyOf P el) := by
  induction h with
  | nil =>
    intro t n el i e h1 h2
    subst e
    have := PathAt.elem h1 h2 (PathAt.nil (P := P) (ty := tyOf P el))
    simpa using this
  | field k1 k2 _ ih =>
    intro t n el i e h1 h2
    have := PathAt.field k1 k2 (ih e h1 h2)
    rw [Nat.add_assoc]; exact this
  | elem k1 k2 _ ih =>
    intro t n el i e h1 h2
    have := PathAt.elem k1 k2 (ih e h1 h2)
    rw [Nat.add_assoc]; exact this
theorem CellsAt.sub {H : Array Obj} {b o o' n : Nat} {cs : List Value} (h : CellsAt H b o cs) (hn : o' + n ≤ cs.length) : CellsAt H b (o + o') (seg cs o' n) := by
  obtain ⟨c, t, fr, h1, h2, h3⟩ := h
  refine ⟨c, t, fr, h1, by rw [seg_length hn]; omega, ?_⟩
  rw [seg_length hn]
  conv => rhs; rw [← h3]
  rw [seg_seg hn]
theorem CellsAt.cell {w : World} {b o : Nat} {cs : List Value} (h : CellsAt w.heap b o cs) (j : Nat) (v : Value) (hj : cs[j]? = some v) : w.cell? ((⟨b, o, none⟩ : Addr).add j) = some v := by
  obtain ⟨c, t, fr, h1, h2, h3⟩ := h
  have hadd : (⟨b, o, none⟩ : Addr).add j = ⟨b, o + j, none⟩ := by unfold Addr.add; split <;> simp_all
  rw [hadd, cell_of_row w b (o + j) c t fr h1]
  rw [← h3, seg_getElem?] at hj
  split at hj
  · simpa using hj
  · cases hj
theorem CellsAt.of_block {H : Array Obj} {b : Nat} {c : Array Value} {t : TypeId} {fr : Nat × Nat} (h : H[b]? = some (.cells c t fr)) {o n : Nat} (hn : o + n ≤ c.size) : CellsAt H b o (seg c.toList o n) :=
  ⟨c, t, fr, h, by rw [seg_length (by simpa using hn)]; exact hn, by rw [seg_length (by simpa using hn)]⟩

section
variable {E : Fr} {tys : Nat → TTy} {U : Nat → Prop} {s : St} {a : Act} {w : World} {o : Oper}

/-- What is behind a pointer. -/
theorem loadV_VR {ρ : Nat → Option Loc} {own : Nat → Prop} (hb : RelB P E tys U s a w ρ own) {e : TypeId} {pv v : V} {x : Value} (hp : VS P (cx E w.heap own ρ) (.pt e) pv x) (hl : loadV s.g pv = some v) :
    ∃ b o cs, x = .pointer (some ⟨b, o, none⟩) ∧ CellsAt w.heap b o cs ∧ cs.length = tySize P (tyOf P e) ∧ VR P (cx E w.heap own ρ) (tyOf P e) v cs := by
  unfold loadV at hl
  split at hl
  · rename_i h p
    obtain ⟨e', he, L, b, oo, h1, h2, h3, h4⟩ := hp.ptr
    injection he with he; subst he
    split at hl
    · rename_i bv hg
      obtain ⟨L', b', c, k1, k2, k3, k4, k5, k6, k7⟩ := hb.heap.blk _ _ hg
      have : L = L' := by have := h1.symm.trans k1; injection this
      subst this
      have : b = b' := by rw [h2] at k2; injection k2
      subst this
      rcases h4 with ⟨_, hpath⟩ | ⟨hrow, _⟩
      · obtain ⟨r1, r2⟩ := VR.at hpath k7 (by simpa using k6) hl
        have r2' : oo + tySize P (tyOf P e) ≤ c.size := by simpa using r2
        exact ⟨b, oo, _, h3, CellsAt.of_block k5 r2', seg_length r2, r1⟩
      · rw [k3] at hrow; cases hrow
    · rename_i ow l hg
      obtain ⟨L', k1, k3, k4⟩ := hb.heap.blk _ _ hg
      have : L = L' := by have := h1.symm.trans k1; injection this
      subst this
      rcases h4 with ⟨hrow, _⟩ | ⟨_, i, q, o', rfl, hpath, ho⟩
      · rw [k3] at hrow; cases hrow
      · simp only at hl
        split at hl
        · rename_i z hz
          split at hl
          · rename_i y hy
            injection hl with hl; subst hl
            rcases k4 with ⟨rfl, _⟩ | ⟨b', c, te, m1, m2, m3, m4, m5, m6⟩
            · simp at hz
            · have : b = b' := by rw [h2] at m1; injection m1
              subst this
              have hr := m6 i z hz
              obtain ⟨r1, r2⟩ := hr.at hpath hy
              have hi : i < l.length := (List.getElem?_eq_some_iff.1 hz).1
              have hb1 := mul_part (s := tySize P (tyOf P L.ty)) hi
              have hsl : (seg c.toList (L.off + i * tySize P (tyOf P L.ty)) (tySize P (tyOf P L.ty))).length = _ := seg_length (by simp; omega)
              rw [hsl] at r2
              rw [seg_seg r2] at r1
              refine ⟨b, oo, _, h3, ?_, ?_, ofD_VR r1⟩
              · rw [ho]; exact CellsAt.of_block m2 (by omega)
              · exact seg_length (by simp; omega)
          · cases hl
        · cases hl
    · cases hl
  · rename_i y
    injection hl with hl; subst hl
    obtain ⟨e', b, oo, cs, he, h1, h2, h3, h4⟩ := hp.rp
    injection he with he; subst he
    exact ⟨b, oo, cs, h1, h3, h4.length, ofD_VR h4⟩
  · cases hl

theorem run_loadVar_at {t : TypeId} (ht : tyGood P t = true) {b oo : Nat} {cs : List Value} (hc : CellsAt w.heap b oo cs) (hl : cs.length = tySize P (tyOf P t)) {C : Ctx} {v : V} (hv : VR P C (tyOf P t) v cs) (_hu : v ≠ .und) :
    ∃ x, (loadVar t ⟨b, oo, none⟩).run P w = .ok x w ∧ VS P C (tyOf P t) v x := by
  have hL : (loadCells ⟨b, oo, none⟩ cs.length).run P w = .ok cs.toArray w := run_loadCells_list (P := P) w ⟨b, oo, none⟩ cs (fun j v hj => hc.cell j v hj)
  cases hag : (tyOf P t).isAg with
  | true =>
    refine ⟨.agg cs.toArray, ?_, ?_⟩
    · simp only [loadVar, Sem.run_bind, tyGood.agg ht, hag, Result.andThen_ok, if_true, tyGood.size ht, ← hl, hL, Sem.run_pure]
    · cases hty : tyOf P t with
      | ag t' => rw [hty] at hv; exact VS.of_agg (by simpa using hv)
      | _ => rw [hty] at hag; cases hag
  | false =>
    have h1 : cs.length = 1 := by
      rw [hl]
      have hne : tyOf P t ≠ .no := by simp only [tyGood, Bool.and_eq_true, decide_eq_true_eq] at ht; exact ht.1.2
      cases hty : tyOf P t with
      | ag t' => rw [hty] at hag; cases hag
      | no => exact absurd hty hne
      | _ => rfl
    obtain ⟨x, rfl⟩ := List.length_eq_one_iff.1 h1
    refine ⟨x, ?_, VS.of_single hv hag (hv.one x (by simp))⟩
    have hx := hc.cell 0 x rfl
    rw [Addr.add_zero'] at hx
    simp only [loadVar, Sem.run_bind, tyGood.agg ht, hag, Result.andThen_ok, Bool.false_eq_true, if_false]
    simp [hx]

theorem go_ld {d : Nat} {x : Opd} {y : Operand} {t : TypeId} {v : V} {u : Hp} {n : Nat} (hr : Rel P E tys U s a w) (ho : o.op = .load t y) (hd : o.dst = some d) (hlt : d < a.tmps.size)
    (ht : tyGood P t = true) (hc : opdOk E.ft tys (.o (.pt t)) y x = true) (hty : tys d = .o (tyOf P t)) (he : eff (.ld d x) s.env s.g s.next = some (v, u, n)) : Goes P E tys U s o a w (s.after (some d) v u n) := by
  simp only [eff] at he
  split at he
  · rename_i v' hv
    injection he with he; injection he with h1 h2; injection h2 with h2 h3; subst h1 h2 h3
    have key : ∀ ρ own, RelB P E tys U s a w ρ own → ∃ b oo cs, a.eval y = .pointer (some ⟨b, oo, none⟩) ∧ CellsAt w.heap b oo cs ∧ cs.length = tySize P (tyOf P t) ∧ VR P (cx E w.heap own ρ) (tyOf P t) v' cs := by
      intro ρ own hb
      have hy := opd_VT (P := P) (C := cx E w.heap own ρ) hc hb.env
      refine loadV_VR hb (hy.vs (V.notUnd (fun e => ?_) (fun l e => ?_))) hv <;> (rw [e] at hv; simp [loadV] at hv)
    obtain ⟨ρ0, own0, hb0⟩ := id hr
    obtain ⟨b, oo, cs, k1, k2, k3, k4⟩ := key ρ0 own0 hb0
    by_cases hu : v' = .und
    · -- nothing is known of what it holds: it is read all the same
      subst hu
      have hL : (loadCells ⟨b, oo, none⟩ cs.length).run P w = .ok cs.toArray w := run_loadCells_list (P := P) w ⟨b, oo, none⟩ cs (fun j v hj => k2.cell j v hj)
      cases hag : (tyOf P t).isAg with
      | true =>
        refine Goes.pure hr (x := .agg cs.toArray) (exec_run (f := Instr.loadAt t (a.eval y)) (by simp [execOp, ho]) ?_) hd hlt (fun ρ own hb => .inl rfl)
        simp only [k1, Instr.loadAt, Instr.sureAddr, Sem.run_bind, Sem.run_pure, Result.andThen_ok, loadVar, tyGood.agg ht, hag, if_true, tyGood.size ht, ← k3, hL]
      | false =>
        have h1 : cs.length = 1 := by
          rw [k3]
          have hne : tyOf P t ≠ .no := by simp only [tyGood, Bool.and_eq_true, decide_eq_true_eq] at ht; exact ht.1.2
          cases hty : tyOf P t with
          | ag t' => rw [hty] at hag; cases hag
          | no => exact absurd hty hne
          | _ => rfl
        obtain ⟨x, rfl⟩ := List.length_eq_one_iff.1 h1
        have hx := k2.cell 0 x rfl
        rw [Addr.add_zero'] at hx
        refine Goes.pure hr (x := x) (exec_run (f := Instr.loadAt t (a.eval y)) (by simp [execOp, ho]) ?_) hd hlt (fun ρ own hb => .inl rfl)
        simp only [k1, Instr.loadAt, Instr.sureAddr, Sem.run_bind, Sem.run_pure, Result.andThen_ok, loadVar, tyGood.agg ht, hag, Bool.false_eq_true, if_false]
        simp [hx]
    · obtain ⟨x, hx, _⟩ := run_loadVar_at ht k2 k3 k4 hu
      refine Goes.pure hr (x := x) (exec_run (f := Instr.loadAt t (a.eval y)) (by simp [execOp, ho]) ?_) hd hlt (fun ρ own hb => ?_)
      · simp only [k1, Instr.loadAt, Instr.sureAddr, Sem.run_bind, Sem.run_pure, Result.andThen_ok, hx]
      · obtain ⟨b', oo', cs', m1, m2, m3, m4⟩ := key ρ own hb
        rw [k1] at m1
        injection m1 with m1; injection m1 with m1; injection m1 with m1 m1'; subst m1 m1'
        obtain ⟨x', hx', hs⟩ := run_loadVar_at ht m2 m3 m4 hu
        rw [hx] at hx'
        injection hx' with hx'; subst hx'
        rw [hty]
        exact .mk hs
  · cases he

theorem go_fa {d i : Nat} {x : Opd} {y : Operand} {t : TypeId} {fs : Array Field} {f : Field} {v : V} {u : Hp} {n : Nat} (hr : Rel P E tys U s a w) (ho : o.op = .fieldAddr t y i) (hd : o.dst = some d) (hlt : d < a.tmps.size)
    (hu : P.underlying t = some (.struct fs)) (hf : fs[i]? = some f) (hg : tyGood P f.type = true) (hz : 0 < tySize P (tyOf P f.type)) (hc : opdOk E.ft tys (.o (.pt t)) y x = true) (hty : tys d = .o (.pt f.type))
    (he : eff (.fa d x i) s.env s.g s.next = some (v, u, n)) : Goes P E tys U s o a w (s.after (some d) v u n) := by
  simp only [eff] at he
  split at he
  · rename_i v' hv
    injection he with he; injection he with h1 h2; injection h2 with h2 h3; subst h1 h2 h3
    have key : ∀ ρ own, RelB P E tys U s a w ρ own → ∃ b oo, a.eval y = .pointer (some ⟨b, oo, none⟩) ∧ VS P (cx E w.heap own ρ) (.pt f.type) v' (.pointer (some ⟨b, oo + f.offset, none⟩)) := by
      intro ρ own hb
      have hy := opd_VT (P := P) (C := cx E w.heap own ρ) hc hb.env
      unfold fieldA at hv
      split at hv
      · rename_i h p hx
        injection hv with hv; subst hv
        rw [hx] at hy
        obtain ⟨e', e1, L, b, oo, k1, k2, k3, k4⟩ := (hy.vs rfl).ptr
        injection e1 with e1; subst e1
        refine ⟨b, oo, k3, VS.of_single (.ptr ⟨L, b, _, k1, k2, rfl, ?_⟩) rfl rfl⟩
        rcases k4 with ⟨k4, k5⟩ | ⟨k4, i', q, o', rfl, k5, k6⟩
        · exact .inl ⟨k4, k5.field' (tyOf_struct hu) hu hf⟩
        · exact .inr ⟨k4, i', q ++ [i], o' + f.offset, rfl, k5.field' (tyOf_struct hu) hu hf, by omega⟩
      · rename_i z hx
        split at hv
        · rename_i z' hz'
          injection hv with hv; subst hv
          rw [hx] at hy
          obtain ⟨e', b, oo, cs, e1, k1, k2, k3, k4⟩ := (hy.vs rfl).rp
          injection e1 with e1; subst e1
          rw [tyOf_struct hu] at k4
          have hpath := PathAt.field hu hf (PathAt.nil (P := P) (ty := tyOf P f.type))
          obtain ⟨r1, r2⟩ := k4.at hpath hz'
          simp only [Nat.add_zero] at r1 r2
          exact ⟨b, oo, k1, VS.of_single (.rp k2 (k3.sub r2) r1) rfl rfl⟩
        · cases hv
      · cases hv
    obtain ⟨ρ0, own0, hb0⟩ := id hr
    obtain ⟨b, oo, k1, k2⟩ := key ρ0 own0 hb0
    refine Goes.pure hr (x := .pointer (some ⟨b, oo + f.offset, none⟩)) (exec_run (f := Instr.fieldAt t (a.eval y) i) (by simp [execOp, ho]) ?_) hd hlt (fun ρ own hb => ?_)
    · have hz' : tySize P (tyOf P f.type) ≠ 0 := by omega
      simp only [Instr.fieldAt, Sem.run_bind, run_underlying hu w, Result.andThen_ok, hf, k1, Instr.sureAddr, Sem.run_pure, fieldPlace, tyGood.size hg, hz', if_false, Addr.add_lit]
    · obtain ⟨b', oo', m1, m2⟩ := key ρ own hb
      rw [k1] at m1
      injection m1 with m1; injection m1 with m1; injection m1 with m1 m1'; subst m1 m1'
      rw [hty]; exact .mk m2
  · cases he
end
end Go.Fw
namespace Go.Fw
open Go Go.RowKit
variable {P : Program}

/-- Element i of a slice of somebody else's. -/
theorem Asl.elem {C : Ctx} {e : TypeId} {nl : Bool} {l : List D} {x : Value} (h : Asl P C e nl l x) {i : Nat} {y : D} (hi : l[i]? = some y) :
    ∃ b o cap cs, x = .slice (some ⟨b, o, none⟩) l.length cap ∧ C.F b ∧ CellsAt C.H b (o + i * tySize P (tyOf P e)) cs ∧ RD P C.H C.S (tyOf P e) y cs := by
  have hne : l ≠ [] := fun e => by simp [e] at hi
  have hlt := (List.getElem?_eq_some_iff.1 hi).1
  rcases h with ⟨_, h, _⟩ | ⟨_, b, o, cap, sp, g, h1, h2, h3, h4, h5, h6, h7⟩
  · exact absurd h hne
  · have := h4 hne; subst this
    exact ⟨b, o, cap, g i, h1, h5 hne, h6 i hlt, h7 i y hi⟩
/-- A piece of a slice of somebody else's. -/
theorem Asl.piece {C : Ctx} {e : TypeId} {nl : Bool} {l : List D} {ad : Option Addr} {len cap : Nat} (h : Asl P C e nl l (.slice ad len cap)) {lo hi : Nat} (h1 : lo ≤ hi) (h2 : hi ≤ l.length) :
    len = l.length ∧ len ≤ cap ∧ cap ≤ maxLen ∧ Asl P C e nl ((l.drop lo).take (hi - lo)) (.slice (if cap = lo then ad else ad.map (·.add (lo * tySize P (tyOf P e)))) (hi - lo) (cap - lo)) := by
  rcases h with ⟨hn, hl, h⟩ | ⟨hn, b, o, cap', sp, g, h, k2, k3, k4, k5, k6, k7⟩
  · injection h with a b c; subst a b c hl
    simp at h2
    have : lo = 0 := by omega
    subst this
    have : hi = 0 := by omega
    subst this
    exact ⟨rfl, by omega, by simp, .inl ⟨hn, rfl, rfl⟩⟩
  · injection h with a b c; subst a b c
    refine ⟨rfl, k2, k3, .inr ⟨hn, ?_⟩⟩
    have hlen : ((l.drop lo).take (hi - lo)).length = hi - lo := by simp; omega
    by_cases hc : cap = lo
    · have e0 : hi - lo = 0 := by omega
      refine ⟨b, o, cap - lo, sp, fun _ => [], ?_, by rw [hlen]; omega, by omega, ?_, ?_, ?_, ?_⟩
      · rw [if_pos hc, hlen]
      · intro hne; exact absurd (List.eq_nil_of_length_eq_zero (by rw [hlen]; exact e0)) hne
      · intro hne; exact absurd (List.eq_nil_of_length_eq_zero (by rw [hlen]; exact e0)) hne
      · intro i hi'; rw [hlen] at hi'; omega
      · intro i d hd; have := (List.getElem?_eq_some_iff.1 hd).1; rw [hlen] at this; omega
    · have hb : ∃ sp', (⟨b, o, sp⟩ : Addr).add (lo * tySize P (tyOf P e)) = ⟨b, o + lo * tySize P (tyOf P e), sp'⟩ ∧ (sp = none → sp' = none) := by
        unfold Addr.add
        split
        · rename_i h0; exact ⟨sp, by rw [h0]; rfl, id⟩
        · exact ⟨none, rfl, fun _ => rfl⟩
      obtain ⟨sp', hb1, hb2⟩ := hb
      have hne' : (l.drop lo).take (hi - lo) ≠ [] → l ≠ [] := fun h e => by simp [e] at h
      refine ⟨b, o + lo * tySize P (tyOf P e), cap - lo, sp', fun i => g (lo + i), ?_, by rw [hlen]; omega, by omega, fun h => hb2 (k4 (hne' h)), fun h => k5 (hne' h), ?_, ?_⟩
      · rw [if_neg hc, hlen]; simp [hb1]
      · intro i hi'
        rw [hlen] at hi'
        have := k6 (lo + i) (by omega)
        rw [Nat.add_mul, ← Nat.add_assoc] at this
        exact this
      · intro i d hd
        rw [List.getElem?_take] at hd
        split at hd
        · rw [List.getElem?_drop] at hd; exact k7 (lo + i) d hd
        · cases hd

section
variable {E : Fr} {tys : Nat → TTy} {U : Nat → Prop} {s : St} {a : Act} {w : World} {o : Oper}

theorem go_ia_slice {d : Nat} {x ix : Opd} {y iy : Operand} {t e : TypeId} {k0 : IntKind} {v : V} {u : Hp} {n : Nat} (hr : Rel P E tys U s a w) (ho : o.op = .indexAddr t y iy) (hd : o.dst = some d) (hlt : d < a.tmps.size)
    (hu : P.underlying t = some (.slice e)) (hg : tyGood P e = true) (hc : opdOk E.ft tys (.o (.sl e)) y x = true) (hci : opdOk E.ft tys (.o (.i k0)) iy ix = true) (hty : tys d = .o (.pt e))
    (he : eff (.ia d x ix) s.env s.g s.next = some (v, u, n)) : Goes P E tys U s o a w (s.after (some d) v u n) := by
  simp only [eff] at he
  split at he
  · rename_i k1 j hij
    split at he
    · rename_i v' hv
      injection he with he; injection he with h1 h2; injection h2 with h2 h3; subst h1 h2 h3
      have key : ∀ ρ own, RelB P E tys U s a w ρ own → ∃ b oo len cap, a.eval y = .slice (some ⟨b, oo, none⟩) len cap ∧ 0 ≤ j ∧ j < (len : Int) ∧ VS P (cx E w.heap own ρ) (.pt e) v' (.pointer (some ⟨b, oo + j.toNat * tySize P (tyOf P e), none⟩)) := by
        intro ρ own hb
        have hy := opd_VT (P := P) (C := cx E w.heap own ρ) hc hb.env
        unfold indexA at hv
        split at hv
        · rename_i nl h off len hx
          split at hv
          · rename_i hj
            injection hv with hv; subst hv
            rw [hx] at hy
            obtain ⟨e', e1, L, k1, k2, k3, k4⟩ := (hy.vs rfl).sl
            injection e1 with e1; subst e1
            rcases k4 with ⟨_, k4, _⟩ | ⟨_, ad, cap, k4, k5, k6, k7⟩
            · omega
            · rcases k7 with k7 | ⟨b, m1, m2, m3⟩
              · omega
              · subst m2
                refine ⟨b, _, len, cap, k4, hj.1, hj.2, VS.of_single (.ptr ⟨L, b, _, k1, m1, rfl, .inr ⟨k2, off + j.toNat, [], 0, rfl, ?_, ?_⟩⟩) rfl rfl⟩
                · rw [k3]; exact .nil
                · rw [k3, Nat.add_mul]; omega
          · cases hv
        · rename_i nl l hx
          split at hv
          · rename_i hj
            split at hv
            · rename_i z hz
              injection hv with hv; subst hv
              rw [hx] at hy
              obtain ⟨e', e1, ha⟩ := (hy.vs rfl).asl
              injection e1 with e1; subst e1
              obtain ⟨b, oo, cap, cs, k1, k2, k3, k4⟩ := ha.elem hz
              have hlt := (List.getElem?_eq_some_iff.1 hz).1
              exact ⟨b, oo, _, cap, k1, hj, by omega, VS.of_single (.rp k2 k3 k4) rfl rfl⟩
            · cases hv
          · cases hv
        · rename_i nl l hx
          split at hv
          · rename_i hj
            split at hv
            · rename_i z hz
              injection hv with hv; subst hv
              rw [hx] at hy
              obtain ⟨e', e1, ha⟩ := (hy.vs rfl).dsl
              injection e1 with e1; subst e1
              obtain ⟨b, oo, cap, cs, k1, k2, k3, k4⟩ := ha.elem hz
              have hlt := (List.getElem?_eq_some_iff.1 hz).1
              exact ⟨b, oo, _, cap, k1, hj, by omega, VS.of_single (.rp k2 k3 k4) rfl rfl⟩
            · cases hv
          · cases hv
        · rename_i l hx
          rw [hx] at hy
          obtain ⟨e', b, oo, cs, e1, _⟩ := (hy.vs rfl).rp
          cases e1
        · rename_i h p hx
          rw [hx] at hy
          obtain ⟨e', e1, _⟩ := (hy.vs rfl).ptr
          cases e1
        · cases hv
      obtain ⟨ρ0, own0, hb0⟩ := id hr
      have hiv := opd_VT (P := P) (C := cx E w.heap own0 ρ0) hci hb0.env
      rw [hij] at hiv
      obtain ⟨b, oo, len, cap, m1, m2, m3, m4⟩ := key ρ0 own0 hb0
      refine Goes.pure hr (x := .pointer (some ⟨b, oo + j.toNat * tySize P (tyOf P e), none⟩)) (exec_run (f := Instr.indexAt t (a.eval y) (a.eval iy)) (by simp [execOp, ho]) ?_) hd hlt (fun ρ own hb => ?_)
      · simp only [Instr.indexAt, hiv.int.2.1, asIntOf, Sem.run_bind, Sem.run_pure, Result.andThen_ok, run_underlying hu w, m1, m2, m3, and_self, if_true, tyGood.size hg, Addr.add_lit]
      · obtain ⟨b', oo', len', cap', q1, q2, q3, q4⟩ := key ρ own hb
        rw [m1] at q1
        injection q1 with q1; injection q1 with q1; injection q1 with q1 q1'; subst q1 q1'
        rw [hty]; exact .mk q4
    · cases he
  · cases he

theorem go_ia_array {d : Nat} {x ix : Opd} {y iy : Operand} {t e : TypeId} {m0 : Nat} {k0 : IntKind} {v : V} {u : Hp} {n : Nat} (hr : Rel P E tys U s a w) (ho : o.op = .indexAddr t y iy) (hd : o.dst = some d) (hlt : d < a.tmps.size)
    (hu : P.underlying t = some (.array m0 e)) (hg : tyGood P e = true) (hc : opdOk E.ft tys (.o (.pt t)) y x = true) (hci : opdOk E.ft tys (.o (.i k0)) iy ix = true) (hty : tys d = .o (.pt e))
    (he : eff (.ia d x ix) s.env s.g s.next = some (v, u, n)) : Goes P E tys U s o a w (s.after (some d) v u n) := by
  simp only [eff] at he
  split at he
  · rename_i k1 j hij
    split at he
    · rename_i v' hv
      injection he with he; injection he with h1 h2; injection h2 with h2 h3; subst h1 h2 h3
      have key : ∀ ρ own, RelB P E tys U s a w ρ own → ∃ b oo, a.eval y = .pointer (some ⟨b, oo, none⟩) ∧ 0 ≤ j ∧ j < (m0 : Int) ∧ VS P (cx E w.heap own ρ) (.pt e) v' (.pointer (some ⟨b, oo + j.toNat * tySize P (tyOf P e), none⟩)) := by
        intro ρ own hb
        have hy := opd_VT (P := P) (C := cx E w.heap own ρ) hc hb.env
        unfold indexA at hv
        split at hv
        · rename_i nl h off len hx
          rw [hx] at hy
          obtain ⟨e', e1, _⟩ := (hy.vs rfl).sl
          cases e1
        · rename_i nl l hx
          rw [hx] at hy
          obtain ⟨e', e1, _⟩ := (hy.vs rfl).asl
          cases e1
        · rename_i nl l hx
          rw [hx] at hy
          obtain ⟨e', e1, _⟩ := (hy.vs rfl).dsl
          cases e1
        · rename_i l hx
          split at hv
          · rename_i hj
            split at hv
            · rename_i z hz
              injection hv with hv; subst hv
              rw [hx] at hy
              obtain ⟨e', b, oo, cs, e1, k1, k2, k3, k4⟩ := (hy.vs rfl).rp
              injection e1 with e1; subst e1
              rw [tyOf_array hu] at k4
              have hlt' : j.toNat < m0 := by
                cases k4 with
                | struct q1 => rw [hu] at q1; cases q1
                | array q1 q0 q2 q3 q4 =>
                  rw [hu] at q1
                  obtain ⟨rfl, rfl⟩ := array_inj q1
                  have := (List.getElem?_eq_some_iff.1 hz).1
                  omega
              have hpath := PathAt.elem hu hlt' (PathAt.nil (P := P) (ty := tyOf P e))
              obtain ⟨r1, r2⟩ := k4.at hpath (y := z) (by simp [D.at, hz])
              simp only [Nat.add_zero] at r1 r2
              exact ⟨b, oo, k1, hj, by omega, VS.of_single (.rp k2 (k3.sub r2) r1) rfl rfl⟩
            · cases hv
          · cases hv
        · rename_i h p hx
          split at hv
          · rename_i lv hlv
            split at hv
            · rename_i m hm
              split at hv
              · rename_i hj
                injection hv with hv; subst hv
                rw [hx] at hy
                have hys := hy.vs rfl
                obtain ⟨b, oo, cs, k1, k2, k3, k4⟩ := loadV_VR hb hys hlv
                rw [tyOf_array hu] at k4
                have hm0 : m = m0 := by
                  cases k4 with
                  | struct q1 => rw [hu] at q1; cases q1
                  | array q1 q0 q2 q3 q4 =>
                    rw [hu] at q1
                    obtain ⟨rfl, rfl⟩ := array_inj q1
                    simp [V.count] at hm; omega
                  | d hd' _ =>
                    cases hd' with
                    | struct q1 => rw [hu] at q1; cases q1
                    | array q1 q0 q2 q3 q4 =>
                      rw [hu] at q1
                      obtain ⟨rfl, rfl⟩ := array_inj q1
                      simp [V.count] at hm; omega
                  | und _ => simp [V.count] at hm
                subst hm0
                obtain ⟨e', e1, L, b', oo', q1, q2, q3, q4⟩ := hys.ptr
                injection e1 with e1; subst e1
                rw [k1] at q3
                injection q3 with q3; injection q3 with q3; injection q3 with q3 q3'; subst q3 q3'
                have hjl : j.toNat < m := by omega
                refine ⟨b, oo, k1, hj.1, hj.2, VS.of_single (.ptr ⟨L, b, _, q1, q2, rfl, ?_⟩) rfl rfl⟩
                rcases q4 with ⟨q4, q5⟩ | ⟨q4, i', q, o', rfl, q5, q6⟩
                · exact .inl ⟨q4, q5.elem' (tyOf_array hu) hu hjl⟩
                · exact .inr ⟨q4, i', q ++ [j.toNat], o' + j.toNat * tySize P (tyOf P e), rfl, q5.elem' (tyOf_array hu) hu hjl, by omega⟩
              · cases hv
            · cases hv
          · cases hv
        · cases hv
      obtain ⟨ρ0, own0, hb0⟩ := id hr
      have hiv := opd_VT (P := P) (C := cx E w.heap own0 ρ0) hci hb0.env
      rw [hij] at hiv
      obtain ⟨b, oo, m1, m2, m3, m4⟩ := key ρ0 own0 hb0
      refine Goes.pure hr (x := .pointer (some ⟨b, oo + j.toNat * tySize P (tyOf P e), none⟩)) (exec_run (f := Instr.indexAt t (a.eval y) (a.eval iy)) (by simp [execOp, ho]) ?_) hd hlt (fun ρ own hb => ?_)
      · simp only [Instr.indexAt, hiv.int.2.1, asIntOf, Sem.run_bind, Sem.run_pure, Result.andThen_ok, run_underlying hu w, m1, m2, m3, and_self, if_true, tyGood.size hg, Addr.add_lit, Instr.sureAddr]
      · obtain ⟨b', oo', q1, q2, q3, q4⟩ := key ρ own hb
        rw [m1] at q1
        injection q1 with q1; injection q1 with q1; injection q1 with q1 q1'; subst q1 q1'
        rw [hty]; exact .mk q4
    · cases he
  · cases he
end
end Go.Fw
namespace Go.Fw
open Go Go.RowKit
variable {P : Program}
section
variable {E : Fr} {tys : Nat → TTy} {U : Nat → Prop} {s : St} {a : Act} {w : World} {o : Oper}

theorem exec_bin {op : BinOp} {xt yt : TypeId} {y1 y2 : Operand} (ho : o.op = .binOp op xt y1 y2 yt) {r : Value} (hg : eqGuard op xt y1 y2 (a.eval y1) (a.eval y2) = pure ()) (hf : (binOp op xt (a.eval y1) (a.eval y2)).run P w = .ok r w) :
    (execOp a.eval o).run P w = .ok (.value r) w := by
  refine exec_run (f := (do eqGuard op xt y1 y2 (a.eval y1) (a.eval y2); binOp op xt (a.eval y1) (a.eval y2))) (by simp [execOp, ho]) ?_
  rw [Sem.run_bind, hg]
  exact hf

theorem int_form {C : Ctx} {q : IntKind} {z : V} {x : Value} (h : VT P C (.o (.i q)) z x) : z.isUnd = true ∨ ∃ m, z = .int q m := by
  rcases h with h | ⟨h, _⟩ | h
  · subst h; exact .inl rfl
  · subst h; exact .inl rfl
  · obtain ⟨h1, h2, h3⟩ := h
    generalize x.cells.toList = cs at h1
    cases h1 with
    | int _ => exact .inr ⟨_, rfl⟩
    | d _ h => cases h
    | und _ => exact .inl rfl
theorem bool_form {C : Ctx} {z : V} {x : Value} (h : VT P C (.o .b) z x) : z.isUnd = true ∨ ∃ b, z = .bool b := by
  rcases h with h | ⟨h, _⟩ | h
  · subst h; exact .inl rfl
  · subst h; exact .inl rfl
  · obtain ⟨h1, h2, h3⟩ := h
    generalize x.cells.toList = cs at h1
    cases h1 with
    | bool => exact .inr ⟨_, rfl⟩
    | d _ h => cases h
    | und _ => exact .inl rfl
theorem eqV_und1 {x : V} (h : x.isUnd = true) (y : V) : eqV x y = none := by
  cases x <;> first | (cases h; done) | (unfold eqV; split <;> simp_all [isNil, V.pure?])
theorem eqV_und2 (x : V) {y : V} (h : y.isUnd = true) : eqV x y = none := by
  cases y <;> first | (cases h; done) | (unfold eqV; split <;> simp_all [isNil, V.pure?])
theorem binV_und1 (op : BinOp) {x : V} (h : x.isUnd = true) (y : V) : binV op x y = none := by
  cases x <;> first | (cases h; done) | (unfold binV; split <;> first | rfl | (rw [eqV_und1 h]) | simp_all)
theorem binV_und2 (op : BinOp) (x : V) {y : V} (h : y.isUnd = true) : binV op x y = none := by
  cases y <;> first | (cases h; done) | (unfold binV; split <;> first | rfl | (rw [eqV_und2 _ h]) | simp_all)
theorem go_bin_int {d : Nat} {op : BinOp} {x1 x2 : Opd} {y1 y2 : Operand} {xt yt : TypeId} {k k' : IntKind} {v : V} {u : Hp} {n : Nat} (hr : Rel P E tys U s a w) (ho : o.op = .binOp op xt y1 y2 yt) (hd : o.dst = some d) (hlt : d < a.tmps.size)
    (hc1 : opdOk E.ft tys (.o (.i k)) y1 x1 = true) (hc2 : opdOk E.ft tys (.o (.i k')) y2 x2 = true)
    (hty : (op = .shl ∨ op = .shr → tys d = .o (.i k)) ∧ (¬ (op = .shl ∨ op = .shr) → (op = .eql ∨ op = .neq ∨ op = .lss ∨ op = .leq ∨ op = .gtr ∨ op = .geq → tys d = .o .b) ∧ (¬ (op = .eql ∨ op = .neq ∨ op = .lss ∨ op = .leq ∨ op = .gtr ∨ op = .geq) → tys d = .o (.i k))))
    (he : eff (.bin d op x1 x2) s.env s.g s.next = some (v, u, n)) : Goes P E tys U s o a w (s.after (some d) v u n) := by
  simp only [eff] at he
  split at he
  · rename_i v' hv
    injection he with he; injection he with h1 h2; injection h2 with h2 h3; subst h1 h2 h3
    obtain ⟨ρ0, own0, hb0⟩ := id hr
    have hy1 := opd_VT (P := P) (C := cx E w.heap own0 ρ0) hc1 hb0.env
    have hy2 := opd_VT (P := P) (C := cx E w.heap own0 ρ0) hc2 hb0.env
    have hex : ∃ m n', val s.env x1 = .int k m ∧ val s.env x2 = .int k' n' := by
      rcases int_form hy1 with e | ⟨m, e⟩
      · rw [binV_und1 _ e] at hv; cases hv
      · rcases int_form hy2 with e2 | ⟨m2, e2⟩
        · rw [binV_und2 _ _ e2] at hv; cases hv
        · exact ⟨m, m2, e, e2⟩
    obtain ⟨m, n', e1, e2⟩ := hex
    rw [e1] at hy1 hv
    rw [e2] at hy2 hv
    obtain ⟨_, q1, w1⟩ := hy1.int
    obtain ⟨_, q2, w2⟩ := hy2.int
    by_cases hsh : op = .shl ∨ op = .shr
    · have hv' : shiftV op k m n' = some v' := by rcases hsh with rfl | rfl <;> exact hv
      obtain ⟨r, h1, rfl, h3⟩ := shift_run (P := P) (w := w) (xt := xt) (yk := k') hsh w1 hv'
      refine Goes.pure hr (x := .int k r) (exec_bin ho (by rw [q1]; exact eqGuard_at_int _ _ _ _ _ _ _) (by rw [q1, q2]; exact h1)) hd hlt (fun ρ own hb => ?_)
      rw [hty.1 hsh]; exact .mk (VS.mk_int h3)
    · have hv' : (if k = k' then arith op k m n' else none) = some v' := by
        cases op <;> first | exact hv | exact absurd (.inl rfl) hsh | exact absurd (.inr rfl) hsh
      split at hv'
      · rename_i hk; subst hk
        have hsh' : op ≠ .shl ∧ op ≠ .shr := ⟨fun e => hsh (.inl e), fun e => hsh (.inr e)⟩
        obtain ⟨x, h1, h2⟩ := arith_run (P := P) (w := w) (xt := xt) hsh' w1 hv'
        refine Goes.pure hr (x := x) (exec_bin ho (by rw [q1]; exact eqGuard_at_int _ _ _ _ _ _ _) (by rw [q1, q2]; exact h1)) hd hlt (fun ρ own hb => ?_)
        obtain ⟨t1, t2⟩ := hty.2 hsh
        rcases h2 with ⟨r, rfl, rfl, hw⟩ | ⟨b, rfl, rfl⟩
        · rw [t2 (fun hcmp => by rcases hcmp with rfl | rfl | rfl | rfl | rfl | rfl <;> simp [arith] at hv')]; exact .mk (VS.mk_int hw)
        · rw [t1 (by cases op <;> simp [arith] at hv' ⊢)]; exact .mk VS.mk_bool
      · cases hv'
  · cases he
end
end Go.Fw
namespace Go.Fw
open Go Go.RowKit
variable {P : Program}

mutual
theorem D.beq_iff : ∀ (x y : D), D.beq x y = true ↔ x = y
  | .int k n, y => by cases y <;> simp [D.beq]
  | .bool a, y => by cases y <;> simp [D.beq]
  | .agg l, y => by
    cases y <;> simp [D.beq]
    exact D.beqs_iff l _
  | .sl a l, y => by
    cases y <;> simp [D.beq]
    intro _
    exact D.beqs_iff l _
  | .str l, y => by cases y <;> simp [D.beq]
theorem D.beqs_iff : ∀ (x y : List D), D.beqs x y = true ↔ x = y
  | [], y => by cases y <;> simp [D.beqs]
  | a :: l, y => by
    cases y <;> simp [D.beqs]
    rw [D.beq_iff a, D.beqs_iff l]
end
mutual
def D.lits : D → List Lit
  | .int k n => [.int k n]
  | .bool b => [.bool b]
  | .agg l => D.litss l
  | .sl _ _ => []
  | .str l => [.string l]
def D.litss : List D → List Lit
  | [] => []
  | x :: l => x.lits ++ D.litss l
end
theorem litss_flatten : ∀ (l : List D), D.litss l = (l.map D.lits).flatten
  | [] => rfl
  | x :: l => by simp [D.litss, litss_flatten l]
variable (P) in
def eqTy : Nat → TypeId → Bool
  | 0, _ => false
  | m + 1, t => match P.underlying t with
    | some .bool => true
    | some (.int _) => true
    | some .string => true
    | some (.struct fs) => fs.all fun f => f.name != "_" && decide (P.cellsOf f.type = tySize P (tyOf P f.type)) && eqTy m f.type
    | some (.array _ e) => decide (P.cellsOf e = tySize P (tyOf P e)) && eqTy m e
    | _ => false
theorem mapM_some {α β : Type} {f : α → Option β} : ∀ {l : List α} {r : List β}, l.length = r.length → (∀ (i : Nat) (a : α) (b : β), l[i]? = some a → r[i]? = some b → f a = some b) → l.mapM f = some r
  | [], [], _, _ => rfl
  | a :: l, b :: r, hl, h => by
    have h0 := h 0 a b rfl rfl
    have h1 := mapM_some (l := l) (r := r) (f := f) (by simpa using hl) (fun i a b x y => h (i + 1) a b (by simpa using x) (by simpa using y))
    simp [List.mapM_cons, h0, h1]
  | [], _ :: _, hl, _ => by simp at hl
  | _ :: _, [], hl, _ => by simp at hl
theorem RD.keys {H : Array Obj} {S : Nat → Prop} : ∀ (m : Nat) (t : TypeId) (x : D) (cs : List Value), eqTy P m t = true → RD P H S (tyOf P t) x cs → P.keyLits m t cs = some x.lits
  | 0, _, _, _, h, _ => by simp [eqTy] at h
  | m + 1, t, x, cs, h, hr => by
    unfold eqTy at h
    unfold Program.keyLits
    cases hu : P.underlying t with
    | none => rw [hu] at h; cases h
    | some k =>
      rw [hu] at h
      cases k <;> simp only [Bool.false_eq_true] at h
      case bool =>
        simp only [tyOf, hu] at hr
        cases hr with
        | bool => rfl
      case int q =>
        simp only [tyOf, hu] at hr
        cases hr with
        | int hw => simp only [hw, and_self, if_true]; rfl
      case string =>
        simp only [tyOf, hu] at hr
        cases hr with
        | @str l hl =>
          have e : (if (ByteArray.mk l.toArray).size ≤ maxLen then some [Lit.string (ByteArray.mk l.toArray).data.toList] else none) = some [Lit.string l] := by
            rw [if_pos (by simpa [ByteArray.size] using hl)]
          exact e
      case struct fs =>
        rw [tyOf_struct hu] at hr
        cases hr with
        | array k1 => rw [hu] at k1; cases k1
        | @struct _ fs' ds _ k1 k0 k2 k3 k4 =>
          rw [hu] at k1
          obtain rfl := struct_inj k1
          have hall := Array.all_eq_true_iff_forall_mem.1 h
          have hn : fs.all (fun f => f.name != "_") = true := Array.all_eq_true_iff_forall_mem.2 fun f hf => by
            have := hall f hf
            simp only [Bool.and_eq_true] at this
            exact this.1.1
          have hm : fs.toList.mapM (fun f => P.keyLits m f.type ((cs.drop f.offset).take (P.cellsOf f.type))) = some (ds.map D.lits) := by
            refine mapM_some (by simp [k3]) (fun i f b hf hb => ?_)
            rw [List.getElem?_map, Option.map_eq_some_iff] at hb
            obtain ⟨d, hd, rfl⟩ := hb
            have hf' : fs[i]? = some f := by simpa using hf
            have := hall f (Array.mem_of_getElem? hf')
            simp only [Bool.and_eq_true, decide_eq_true_eq] at this
            have hk := k4 i f d hf' hd
            rw [this.1.2]
            exact RD.keys m f.type d _ this.2 hk
          have e : (if cs.length = P.cellsOf t ∧ fs.all (fun x => x.name != "_") = true then Option.map List.flatten (fs.toList.mapM fun f => P.keyLits m f.type ((cs.drop f.offset).take (P.cellsOf f.type))) else none) = some (D.agg ds).lits := by
            rw [if_pos ⟨k2, hn⟩, hm]
            simp [D.lits, litss_flatten]
          exact e
      case array n e =>
        rw [tyOf_array hu] at hr
        cases hr with
        | struct k1 => rw [hu] at k1; cases k1
        | @array _ n' e' ds _ k1 k0 k2 k3 k4 =>
          rw [hu] at k1
          obtain ⟨rfl, rfl⟩ := array_inj k1
          simp only [Bool.and_eq_true, decide_eq_true_eq] at h
          have hm : (List.range n).mapM (fun i => P.keyLits m e ((cs.drop (i * P.cellsOf e)).take (P.cellsOf e))) = some (ds.map D.lits) := by
            refine mapM_some (by simp [k3]) (fun i j b hf hb => ?_)
            rw [List.getElem?_map, Option.map_eq_some_iff] at hb
            obtain ⟨d, hd, rfl⟩ := hb
            have hij : i = j := by
              rw [List.getElem?_range (by have := (List.getElem?_eq_some_iff.1 hf).1; simpa using this)] at hf
              injection hf
            subst hij
            have hk := k4 i d hd
            rw [h.1]
            exact RD.keys m e d _ h.2 hk
          have e' : (if cs.length = P.cellsOf t then Option.map List.flatten ((List.range n).mapM fun i => P.keyLits m e ((cs.drop (i * P.cellsOf e)).take (P.cellsOf e))) else none) = some (D.agg ds).lits := by
            rw [if_pos k2, hm]
            simp [D.lits, litss_flatten]
          exact e'
theorem litss_inj : ∀ (l m : List D), l.length = m.length → (∀ (i : Nat) (a b : D), l[i]? = some a → m[i]? = some b → a.lits.length = b.lits.length ∧ (a.lits = b.lits → a = b)) → (D.litss l).length = (D.litss m).length ∧ (D.litss l = D.litss m → l = m)
  | [], [], _, _ => ⟨rfl, fun _ => rfl⟩
  | a :: l, b :: m, hl, h => by
    obtain ⟨h1, h2⟩ := h 0 a b rfl rfl
    obtain ⟨h3, h4⟩ := litss_inj l m (by simpa using hl) (fun i a b x y => h (i + 1) a b (by simpa using x) (by simpa using y))
    simp only [D.litss]
    refine ⟨by simp [h1, h3], fun e => ?_⟩
    obtain ⟨e1, e2⟩ := List.append_inj e h1
    rw [h2 e1, h4 e2]
  | [], _ :: _, hl, _ => by simp at hl
  | _ :: _, [], hl, _ => by simp at hl
theorem RD.lits_inj {H H' : Array Obj} {S S' : Nat → Prop} : ∀ (m : Nat) (t : TypeId) (x y : D) (cs cs' : List Value), eqTy P m t = true → RD P H S (tyOf P t) x cs → RD P H' S' (tyOf P t) y cs' → x.lits.length = y.lits.length ∧ (x.lits = y.lits → x = y)
  | 0, _, _, _, _, _, h, _, _ => by simp [eqTy] at h
  | m + 1, t, x, y, cs, cs', h, hr, hr' => by
    unfold eqTy at h
    cases hu : P.underlying t with
    | none => rw [hu] at h; cases h
    | some k =>
      rw [hu] at h
      cases k <;> simp only [Bool.false_eq_true] at h
      case bool =>
        simp only [tyOf, hu] at hr hr'
        cases hr with
        | bool => cases hr' with
          | bool => exact ⟨rfl, fun e => by simpa [D.lits] using e⟩
      case int q =>
        simp only [tyOf, hu] at hr hr'
        cases hr with
        | int hw => cases hr' with
          | int hw' => exact ⟨rfl, fun e => by simpa [D.lits] using e⟩
      case string =>
        simp only [tyOf, hu] at hr hr'
        cases hr with
        | str hl => cases hr' with
          | str hl' => exact ⟨rfl, fun e => by simpa [D.lits] using e⟩
      case struct fs =>
        rw [tyOf_struct hu] at hr hr'
        cases hr with
        | array k1 => rw [hu] at k1; cases k1
        | @struct _ fs' ds _ k1 k0 k2 k3 k4 =>
          rw [hu] at k1
          obtain rfl := struct_inj k1
          cases hr' with
          | array q1 => rw [hu] at q1; cases q1
          | @struct _ fs' ds' _ q1 q0 q2 q3 q4 =>
            rw [hu] at q1
            obtain rfl := struct_inj q1
            have hall := Array.all_eq_true_iff_forall_mem.1 h
            obtain ⟨r1, r2⟩ := litss_inj ds ds' (by rw [k3, q3]) (fun i a b ha hb => by
              have hi : i < fs.size := by rw [← k3]; exact (List.getElem?_eq_some_iff.1 ha).1
              have hf : fs[i]? = some fs[i] := by simp [hi]
              have := hall fs[i] (Array.mem_of_getElem? hf)
              simp only [Bool.and_eq_true, decide_eq_true_eq] at this
              exact RD.lits_inj m _ a b _ _ this.2 (k4 i _ a hf ha) (q4 i _ b hf hb))
            exact ⟨r1, fun e => by rw [r2 e]⟩
      case array n e =>
        rw [tyOf_array hu] at hr hr'
        cases hr with
        | struct k1 => rw [hu] at k1; cases k1
        | @array _ n' e' ds _ k1 k0 k2 k3 k4 =>
          rw [hu] at k1
          obtain ⟨rfl, rfl⟩ := array_inj k1
          cases hr' with
          | struct q1 => rw [hu] at q1; cases q1
          | @array _ n' e' ds' _ q1 q0 q2 q3 q4 =>
            rw [hu] at q1
            obtain ⟨rfl, rfl⟩ := array_inj q1
            simp only [Bool.and_eq_true, decide_eq_true_eq] at h
            obtain ⟨r1, r2⟩ := litss_inj ds ds' (by rw [k3, q3]) (fun i a b ha hb => RD.lits_inj m _ a b _ _ h.2 (k4 i a ha) (q4 i b hb))
            exact ⟨r1, fun e => by rw [r2 e]⟩

theorem binV_eql {X Y : V} (h : ∀ k n, X ≠ .int k n) : binV .eql X Y = match eqV X Y with | some b => some (.bool b) | none => none := by
  cases X <;> first | rfl | exact absurd rfl (h _ _)
theorem binV_neq {X Y : V} (h : ∀ k n, X ≠ .int k n) : binV .neq X Y = match eqV X Y with | some b => some (.bool (!b)) | none => none := by
  cases X <;> first | rfl | exact absurd rfl (h _ _)

section
variable {E : Fr} {tys : Nat → TTy} {U : Nat → Prop} {s : St} {a : Act} {w : World} {o : Oper}

theorem equalIn_bool {t : TypeId} (hu : P.underlying t = some .bool) (d : Nat) (x y : Bool) : (Op.equalIn (d + 1) t (.bool x) (.bool y)).run P w = .ok (x == y) w := by
  unfold Op.equalIn
  simp [run_underlying hu w]
theorem equalIn_nil {t e : TypeId} (hu : P.underlying t = some (.slice e)) (d : Nat) (ad : Option Addr) (len cap : Nat) : (Op.equalIn (d + 1) t (.slice ad len cap) (.slice none 0 0)).run P w = .ok ad.isNone w := by
  unfold Op.equalIn
  cases ad <;> simp [run_underlying hu w]
/-- One equality: what eqV says is what the model says. -/
theorem go_eq {d : Nat} {op : BinOp} {x1 x2 : Opd} {y1 y2 : Operand} {xt yt : TypeId} {v : V} {u : Hp} {n : Nat} (hr : Rel P E tys U s a w) (ho : o.op = .binOp op xt y1 y2 yt) (hd : o.dst = some d) (hlt : d < a.tmps.size)
    (hop : op = .eql ∨ op = .neq) (hty : tys d = .o .b) (hni : ∀ k m, val s.env x1 ≠ .int k m)
    (hg : eqGuard op xt y1 y2 (a.eval y1) (a.eval y2) = pure () ∨ (eqGuard op xt y1 y2 (a.eval y1) (a.eval y2)).run P w = .ok () w)
    (hb : binOp .eql xt (a.eval y1) (a.eval y2) = (do pure (.bool (← Op.equal xt (a.eval y1) (a.eval y2)))))
    (hb' : binOp .neq xt (a.eval y1) (a.eval y2) = (do pure (.bool (!(← Op.equal xt (a.eval y1) (a.eval y2))))))
    (hq : ∀ b, eqV (val s.env x1) (val s.env x2) = some b → (Op.equal xt (a.eval y1) (a.eval y2)).run P w = .ok b w)
    (he : eff (.bin d op x1 x2) s.env s.g s.next = some (v, u, n)) : Goes P E tys U s o a w (s.after (some d) v u n) := by
  simp only [eff] at he
  split at he
  · rename_i v' hv
    injection he with he; injection he with h1 h2; injection h2 with h2 h3; subst h1 h2 h3
    have hg' : (eqGuard op xt y1 y2 (a.eval y1) (a.eval y2)).run P w = .ok () w := by
      rcases hg with h | h
      · rw [h]; rfl
      · exact h
    have fin : ∀ (r : Value), (binOp op xt (a.eval y1) (a.eval y2)).run P w = .ok r w → (execOp a.eval o).run P w = .ok (.value r) w := by
      intro r hf
      refine exec_run (f := (do eqGuard op xt y1 y2 (a.eval y1) (a.eval y2); binOp op xt (a.eval y1) (a.eval y2))) (by simp [execOp, ho]) ?_
      rw [Sem.run_bind, hg']
      exact hf
    rcases hop with rfl | rfl
    · rw [binV_eql hni] at hv
      split at hv
      · rename_i b hb0
        injection hv with hv; subst hv
        refine Goes.pure hr (x := .bool b) (fin _ ?_) hd hlt (fun ρ own _ => by rw [hty]; exact .mk VS.mk_bool)
        rw [hb, Sem.run_bind, hq b hb0]; rfl
      · cases hv
    · rw [binV_neq hni] at hv
      split at hv
      · rename_i b hb0
        injection hv with hv; subst hv
        refine Goes.pure hr (x := .bool (!b)) (fin _ ?_) hd hlt (fun ρ own _ => by rw [hty]; exact .mk VS.mk_bool)
        rw [hb', Sem.run_bind, hq b hb0]; rfl
      · cases hv
  · cases he

theorem go_bin_bool {d : Nat} {op : BinOp} {x1 x2 : Opd} {y1 y2 : Operand} {xt yt : TypeId} {v : V} {u : Hp} {n : Nat} (hr : Rel P E tys U s a w) (ho : o.op = .binOp op xt y1 y2 yt) (hd : o.dst = some d) (hlt : d < a.tmps.size)
    (hop : op = .eql ∨ op = .neq) (hu : P.underlying xt = some .bool) (hc1 : opdOk E.ft tys (.o .b) y1 x1 = true) (hc2 : opdOk E.ft tys (.o .b) y2 x2 = true) (hty : tys d = .o .b)
    (he : eff (.bin d op x1 x2) s.env s.g s.next = some (v, u, n)) : Goes P E tys U s o a w (s.after (some d) v u n) := by
  obtain ⟨ρ0, own0, hb0⟩ := id hr
  have hy1 := opd_VT (P := P) (C := cx E w.heap own0 ρ0) hc1 hb0.env
  have hy2 := opd_VT (P := P) (C := cx E w.heap own0 ρ0) hc2 hb0.env
  have hex : ∃ b b', val s.env x1 = .bool b ∧ val s.env x2 = .bool b' := by
    rcases bool_form hy1 with e | ⟨m, e⟩
    · simp only [eff, binV_und1 _ e] at he; cases he
    · rcases bool_form hy2 with e2 | ⟨m2, e2⟩
      · simp only [eff, binV_und2 _ _ e2] at he; cases he
      · exact ⟨m, m2, e, e2⟩
  obtain ⟨b1, b2, e1, e2⟩ := hex
  rw [e1] at hy1
  rw [e2] at hy2
  have q1 := hy1.bool.2
  have q2 := hy2.bool.2
  refine go_eq hr ho hd hlt hop hty (fun k m => by rw [e1]; simp) (.inl (by rw [q1, q2]; rcases hop with rfl | rfl <;> rfl)) (by rw [q1, q2]; rfl) (by rw [q1, q2]; rfl) (fun b hb => ?_) he
  rw [e1, e2] at hb
  simp only [eqV] at hb
  injection hb with hb; subst hb
  rw [q1, q2]
  exact equalIn_bool hu 9999 b1 b2

theorem go_bin_nil {d : Nat} {op : BinOp} {x1 : Opd} {y1 : Operand} {xt yt e : TypeId} {v : V} {u : Hp} {n : Nat} (hr : Rel P E tys U s a w) (ho : o.op = .binOp op xt y1 (.const (.slice none 0 0)) yt) (hd : o.dst = some d) (hlt : d < a.tmps.size)
    (hop : op = .eql ∨ op = .neq) (hu : P.underlying xt = some (.slice e)) (hc1 : opdOk E.ft tys (.o (.sl e)) y1 x1 = true) (hty : tys d = .o .b)
    (he : eff (.bin d op x1 (.c (.d (.sl true [])))) s.env s.g s.next = some (v, u, n)) : Goes P E tys U s o a w (s.after (some d) v u n) := by
  obtain ⟨ρ0, own0, hb0⟩ := id hr
  have hy1 := opd_VT (P := P) (C := cx E w.heap own0 ρ0) hc1 hb0.env
  have heq : ∀ X : V, eqV X (.d (.sl true [])) = isNil X := fun X => by cases X <;> rfl
  have hvc : val s.env (.c (.d (.sl true []))) = .d (.sl true []) := rfl
  have hex : ∃ b ad len cap, isNil (val s.env x1) = some b ∧ a.eval y1 = .slice ad len cap ∧ (b = ad.isNone) ∧ ∀ k m, val s.env x1 ≠ .int k m := by
    cases hx : isNil (val s.env x1) with
    | none =>
      have : ∀ k m, val s.env x1 ≠ .int k m := fun k m e => by
        rw [e] at hy1
        have := hy1.int.1
        simp at this
      simp only [eff] at he
      rcases hop with rfl | rfl
      · rw [binV_eql this, hvc, heq, hx] at he; cases he
      · rw [binV_neq this, hvc, heq, hx] at he; cases he
    | some b =>
      unfold isNil at hx
      split at hx
      · rename_i nl h off len hv
        injection hx with hx; subst hx
        rw [hv] at hy1
        obtain ⟨e', _, L, _, _, _, h⟩ := (hy1.vs rfl).sl
        rcases h with ⟨rfl, rfl, h⟩ | ⟨rfl, ad, cap, h, _⟩
        · exact ⟨_, _, _, _, rfl, h, rfl, by rw [hv]; simp⟩
        · exact ⟨_, _, _, _, rfl, h, rfl, by rw [hv]; simp⟩
      · rename_i nl l hv
        injection hx with hx; subst hx
        rw [hv] at hy1
        obtain ⟨e', _, h⟩ := (hy1.vs rfl).asl
        rcases h with ⟨rfl, rfl, h⟩ | ⟨rfl, b, oo, cap, sp, g, h, _⟩
        · exact ⟨_, _, _, _, rfl, h, rfl, by rw [hv]; simp⟩
        · exact ⟨_, _, _, _, rfl, h, rfl, by rw [hv]; simp⟩
      · rename_i nl l hv
        injection hx with hx; subst hx
        rw [hv] at hy1
        obtain ⟨e', _, h⟩ := (hy1.vs rfl).dsl
        rcases h with ⟨rfl, rfl, h⟩ | ⟨rfl, b, oo, cap, sp, g, h, _⟩
        · exact ⟨_, _, _, _, rfl, h, rfl, by rw [hv]; simp⟩
        · exact ⟨_, _, _, _, rfl, h, rfl, by rw [hv]; simp⟩
      · cases hx
  obtain ⟨b, ad, len, cap, h1, h2, h3, h4⟩ := hex
  refine go_eq hr ho hd hlt hop hty h4 (.inl (by rw [h2]; rcases hop with rfl | rfl <;> rfl)) (by rw [h2]; rfl) (by rw [h2]; rfl) (fun b' hb => ?_) he
  rw [hvc, heq, h1] at hb
  injection hb with hb; subst hb
  rw [h2, h3]
  exact equalIn_nil hu 9999 ad len cap

theorem stringOp_eql {t : TypeId} (x y : List UInt8) : (binOp .eql t (.string ⟨x.toArray⟩) (.string ⟨y.toArray⟩)).run P w = .ok (.bool (decide (x = y))) w := by
  show (Op.stringOp .eql _ _).run P w = _
  have e : (x == y) = decide (x = y) := by
    by_cases h : x = y
    · subst h; simp
    · simp [h]
  simp [Op.stringOp, Sem.run_pure, ByteArray.toList_eq, e]
theorem stringOp_neq {t : TypeId} (x y : List UInt8) : (binOp .neq t (.string ⟨x.toArray⟩) (.string ⟨y.toArray⟩)).run P w = .ok (.bool (!decide (x = y))) w := by
  show (Op.stringOp .neq _ _).run P w = _
  have e : (x == y) = decide (x = y) := by
    by_cases h : x = y
    · subst h; simp
    · simp [h]
  simp [Op.stringOp, Sem.run_pure, ByteArray.toList_eq, bne, e]
theorem go_bin_str {d : Nat} {op : BinOp} {x1 x2 : Opd} {y1 y2 : Operand} {xt yt : TypeId} {v : V} {u : Hp} {n : Nat} (hr : Rel P E tys U s a w) (ho : o.op = .binOp op xt y1 y2 yt) (hd : o.dst = some d) (hlt : d < a.tmps.size)
    (hop : op = .eql ∨ op = .neq) (hu : P.underlying xt = some .string) (hc1 : opdOk E.ft tys (.o .s) y1 x1 = true) (hc2 : opdOk E.ft tys (.o .s) y2 x2 = true) (hty : tys d = .o .b)
    (he : eff (.bin d op x1 x2) s.env s.g s.next = some (v, u, n)) : Goes P E tys U s o a w (s.after (some d) v u n) := by
  obtain ⟨ρ0, own0, hb0⟩ := id hr
  have hy1 := opd_VT (P := P) (C := cx E w.heap own0 ρ0) hc1 hb0.env
  have hy2 := opd_VT (P := P) (C := cx E w.heap own0 ρ0) hc2 hb0.env
  have hu1 : (val s.env x1).isUnd = false := by
    cases e : (val s.env x1).isUnd with
    | false => rfl
    | true => simp only [eff, binV_und1 _ e] at he; cases he
  have hu2 : (val s.env x2).isUnd = false := by
    cases e : (val s.env x2).isUnd with
    | false => rfl
    | true => simp only [eff, binV_und2 _ _ e] at he; cases he
  rcases (hy1.vs hu1).str with e | ⟨l1, e1, _, q1⟩
  · rw [e] at hu1; cases hu1
  rcases (hy2.vs hu2).str with e | ⟨l2, e2, _, q2⟩
  · rw [e] at hu2; cases hu2
  have fin : ∀ (r : Value), (binOp op xt (a.eval y1) (a.eval y2)).run P w = .ok r w → (execOp a.eval o).run P w = .ok (.value r) w := by
    intro r hf
    refine exec_run (f := (do eqGuard op xt y1 y2 (a.eval y1) (a.eval y2); binOp op xt (a.eval y1) (a.eval y2))) (by simp [execOp, ho]) ?_
    have hg : (eqGuard op xt y1 y2 (a.eval y1) (a.eval y2)).run P w = .ok () w := by
      rw [q1, q2]; rcases hop with rfl | rfl <;> rfl
    rw [Sem.run_bind, hg]
    exact hf
  have hni : ∀ k m, val s.env x1 ≠ .int k m := fun k m => by rw [e1]; simp
  have hev : eqV (val s.env x1) (val s.env x2) = some (decide (l1 = l2)) := by
    rw [e1, e2]; simp [eqV, V.pure?, D.beq]
  simp only [eff] at he
  split at he
  · rename_i v' hv
    injection he with he; injection he with h1 h2; injection h2 with h2 h3; subst h1 h2 h3
    rcases hop with rfl | rfl
    · rw [binV_eql hni, hev] at hv
      injection hv with hv; subst hv
      exact Goes.pure hr (x := .bool (decide (l1 = l2))) (fin _ (by rw [q1, q2]; exact stringOp_eql l1 l2)) hd hlt (fun ρ own _ => by rw [hty]; exact .mk VS.mk_bool)
    · rw [binV_neq hni, hev] at hv
      injection hv with hv; subst hv
      exact Goes.pure hr (x := .bool (!decide (l1 = l2))) (fin _ (by rw [q1, q2]; exact stringOp_neq l1 l2)) hd hlt (fun ρ own _ => by rw [hty]; exact .mk VS.mk_bool)
  · cases he

theorem stringOp_add {t : TypeId} (x y : List UInt8) (h : x.length + y.length ≤ 1073741824) : (binOp .add t (.string ⟨x.toArray⟩) (.string ⟨y.toArray⟩)).run P w = .ok (.string ⟨(x ++ y).toArray⟩) w := by
  show (Op.stringOp .add _ _).run P w = _
  have h1 : ¬ (9223372036854775807 < (x.length : Int) + (y.length : Int)) := by omega
  have e : (ByteArray.mk x.toArray ++ ByteArray.mk y.toArray) = ⟨(x ++ y).toArray⟩ := by
    apply ByteArray.ext
    simp
  simp [Op.stringOp, Sem.run_pure, ByteArray.size, h1, e]
theorem go_bin_cat {d : Nat} {x1 x2 : Opd} {y1 y2 : Operand} {xt yt : TypeId} {v : V} {u : Hp} {n : Nat} (hr : Rel P E tys U s a w) (ho : o.op = .binOp .add xt y1 y2 yt) (hd : o.dst = some d) (hlt : d < a.tmps.size)
    (hc1 : opdOk E.ft tys (.o .s) y1 x1 = true) (hc2 : opdOk E.ft tys (.o .s) y2 x2 = true) (hty : tys d = .o .s)
    (he : eff (.bin d .add x1 x2) s.env s.g s.next = some (v, u, n)) : Goes P E tys U s o a w (s.after (some d) v u n) := by
  obtain ⟨ρ0, own0, hb0⟩ := id hr
  have hy1 := opd_VT (P := P) (C := cx E w.heap own0 ρ0) hc1 hb0.env
  have hy2 := opd_VT (P := P) (C := cx E w.heap own0 ρ0) hc2 hb0.env
  have hu1 : (val s.env x1).isUnd = false := by
    cases e : (val s.env x1).isUnd with
    | false => rfl
    | true => simp only [eff, binV_und1 _ e] at he; cases he
  have hu2 : (val s.env x2).isUnd = false := by
    cases e : (val s.env x2).isUnd with
    | false => rfl
    | true => simp only [eff, binV_und2 _ _ e] at he; cases he
  rcases (hy1.vs hu1).str with e | ⟨l1, e1, _, q1⟩
  · rw [e] at hu1; cases hu1
  rcases (hy2.vs hu2).str with e | ⟨l2, e2, _, q2⟩
  · rw [e] at hu2; cases hu2
  simp only [eff, e1, e2, binV] at he
  split at he
  · rename_i v' hv
    split at hv
    · rename_i hle
      injection hv with hv; subst hv
      injection he with he; injection he with h1 h2; injection h2 with h2 h3; subst h1 h2 h3
      refine Goes.pure hr (x := .string ⟨(l1 ++ l2).toArray⟩) (exec_run (f := (do eqGuard .add xt y1 y2 (a.eval y1) (a.eval y2); binOp .add xt (a.eval y1) (a.eval y2))) (by simp [execOp, ho]) ?_) hd hlt (fun ρ own _ => by
        rw [hty]; exact .mk (VS.of_single (.d (.str (by simp only [List.length_append, maxLen]; omega)) rfl) rfl rfl))
      have hg : (eqGuard .add xt y1 y2 (a.eval y1) (a.eval y2)).run P w = .ok () w := rfl
      rw [Sem.run_bind, hg, q1, q2]
      exact stringOp_add l1 l2 hle
    · cases hv
  · cases he

theorem go_bin_ag {d : Nat} {op : BinOp} {x1 x2 : Opd} {y1 y2 : Operand} {xt yt : TypeId} {v : V} {u : Hp} {n : Nat} (hr : Rel P E tys U s a w) (ho : o.op = .binOp op xt y1 y2 yt) (hd : o.dst = some d) (hlt : d < a.tmps.size)
    (hop : op = .eql ∨ op = .neq) (htt : tyOf P xt = .ag xt) (hk : P.keyTypeAt 20 xt = true) (hq : eqTy P 20 xt = true) (hgt : P.eqGuardType P.depth xt = false)
    (hc1 : opdOk E.ft tys (.o (.ag xt)) y1 x1 = true) (hc2 : opdOk E.ft tys (.o (.ag xt)) y2 x2 = true) (hty : tys d = .o .b)
    (he : eff (.bin d op x1 x2) s.env s.g s.next = some (v, u, n)) : Goes P E tys U s o a w (s.after (some d) v u n) := by
  obtain ⟨ρ0, own0, hb0⟩ := id hr
  have hy1 := opd_VT (P := P) (C := cx E w.heap own0 ρ0) hc1 hb0.env
  have hy2 := opd_VT (P := P) (C := cx E w.heap own0 ρ0) hc2 hb0.env
  have hni : ∀ k m, val s.env x1 ≠ .int k m := fun k m e => by
    rw [e] at hy1
    have := hy1.int.1
    simp at this
  have hu1 : (val s.env x1).isUnd = false := by
    cases e : (val s.env x1).isUnd with
    | false => rfl
    | true => simp only [eff, binV_und1 _ e] at he; cases he
  have hu2 : (val s.env x2).isUnd = false := by
    cases e : (val s.env x2).isUnd with
    | false => rfl
    | true => simp only [eff, binV_und2 _ _ e] at he; cases he
  have hs1 := hy1.vs hu1
  have hs2 := hy2.vs hu2
  obtain ⟨c1, e1, r1⟩ := hs1.ag
  obtain ⟨c2, e2, r2⟩ := hs2.ag
  have hkt : tyOf P xt = .ag xt → (match P.underlying xt with | some (.struct _) | some (.array _ _) => true | _ => false) = true := by
    intro h
    unfold tyOf at h
    split at h <;> simp_all
  have hpure : ∀ (V1 V2 : V) (b : Bool), VS P (cx E w.heap own0 ρ0) (.ag xt) V1 (a.eval y1) → VS P (cx E w.heap own0 ρ0) (.ag xt) V2 (a.eval y2) → eqV V1 V2 = some b → ∃ d1 d2, V1.pure? = some d1 ∧ V2.pure? = some d2 ∧ b = D.beq d1 d2 := by
    intro V1 V2 b q1 q2 hb
    unfold eqV at hb
    split at hb
    · have := q1.bool.1; cases this
    · obtain ⟨_, h, _⟩ := q2.dsl; cases h
    · obtain ⟨_, h, _⟩ := q1.dsl; cases h
    · split at hb
      · rename_i d1 d2 g1 g2
        injection hb with hb
        exact ⟨d1, d2, g1, g2, hb.symm⟩
      · cases hb
  refine go_eq hr ho hd hlt hop hty hni (.inr ?_) (by rw [e1, e2]; rfl) (by rw [e1, e2]; rfl) (fun b hb => ?_) he
  · rw [e1, e2]
    rcases hop with rfl | rfl <;> simp [eqGuard, hgt, Sem.run_pure]
  · obtain ⟨d1, d2, g1, g2, rfl⟩ := hpure _ _ _ hs1 hs2 hb
    have p1 := r1.pure g1
    have p2 := r2.pure g2
    rw [← htt] at p1 p2
    have k1 := RD.keys 20 xt d1 _ hq p1
    have k2 := RD.keys 20 xt d2 _ hq p2
    have hf : ∀ {c : Array Value} {dd : D}, RD P w.heap (cx E w.heap own0 ρ0).S (tyOf P xt) dd c.toList → (Value.agg c).formed P xt = true := by
      intro c dd hrd
      have hl := hrd.length
      rw [htt] at hl
      have hl' : c.size = P.cellsOf xt := by simpa [tySize] using hl
      have := hkt htt
      clear hs1 hs2 hy1 hy2 hni hu1 hu2 hpure k1 k2 p1 p2 r1 r2 he hb hkt
      unfold Value.formed
      cases hu : P.underlying xt with
      | none => rw [hu] at this; cases this
      | some kd => rw [hu] at this; cases kd <;> first | (simp at this; done) | (simp [hl'])
    obtain ⟨r, h1, h2⟩ := run_equalIn_deep (P := P) (Op.maxDepth - 20) 20 xt hk w 20 20 (.agg c1) (.agg c2) d1.lits d2.lits (hf p1) (hf p2) k1 k2
    have hrb : r = D.beq d1 d2 := by
      have := RD.lits_inj 20 xt d1 d2 _ _ hq p1 p2
      have hiff : r = true ↔ D.beq d1 d2 = true := by
        rw [h2, D.beq_iff]
        exact ⟨this.2, fun e => by rw [e]⟩
      cases r <;> cases hbb : D.beq d1 d2 <;> simp_all
    rw [e1, e2, ← hrb]
    exact h1
end
end Go.Fw
