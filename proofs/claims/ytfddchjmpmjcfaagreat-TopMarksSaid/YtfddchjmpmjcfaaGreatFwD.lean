/- Regions, loops, calls and functions, and a law's row out of what the evaluator says of it. No conditions. -/
import Derived.Test.YtfddchjmpmjcfaaGreatFwE
import Derived.Orders
import Derived.ChangeArms
import Derived.ChangeShapes
import Derived.SizedLaws
import Derived.Carry
import Derived.JoinedOf
import Derived.KernelRfl
set_option linter.unusedVariables false
set_option linter.unusedSimpArgs false
namespace Go.Fw
open Go Go.RowKit
variable {P : Program} {FT : Nat → FTy}
section
variable {E : Fr} {tys : Nat → TTy} {U : Nat → Prop} {s : St} {a : Act} {w : World} {o : Oper}

variable (P) in
def RelN (E : Fr) (N : Nat) (tys : Nat → TTy) (U : Nat → Prop) (s : St) (a : Act) (w : World) : Prop := Rel P E tys U s a w ∧ a.tmps.size = N ∧ a.defers = []
theorem put_size (a : Act) (d : Option Tmp) (x : Value) : (a.put d x).tmps.size = a.tmps.size := by
  cases d <;> simp [Act.put]
theorem put_defers (a : Act) (d : Option Tmp) (x : Value) : (a.put d x).defers = a.defers := by
  cases d <;> rfl
theorem Goes.wp {N : Nat} {s' : St} (h : Goes P E tys U s o a w s') (hN : a.tmps.size = N) (hd : a.defers = []) {K : Act → World → Prop} {Q : Exit → Act → World → Prop} (hK : ∀ a' w', RelN P E N tys (addU U s.next s'.next) s' a' w' → K a' w') : o.wp P a w K Q := by
  unfold Oper.wp
  rcases h with ⟨x, w', h1, h2⟩ | ⟨w', h1, h2⟩
  · rw [h1]
    exact hK _ _ ⟨h2, by rw [put_size, hN], by rw [put_defers, hd]⟩
  · rw [h1]
    exact hK _ _ ⟨h2, by rw [put_size, hN], by rw [put_defers, hd]⟩
theorem addU_lt {n n' : Nat} (h : n ≤ n') : addU (fun h => h < n) n n' = fun h => h < n' := by
  funext x
  unfold addU
  apply propext
  constructor
  · rintro (h1 | h1) <;> omega
  · intro h1
    by_cases h2 : x < n
    · exact .inl h2
    · exact .inr ⟨by omega, h1⟩

theorem VS.of_single' {C : Ctx} {ty : Ty} {v : V} {x : Value} (h : VR P C ty v [x]) (hn : ty.isAg = false) (hc : x.cells = #[x]) : VS P C ty v x := by
  refine ⟨by rw [hc]; exact h, fun e => ?_, fun _ => hc⟩
  rw [hn] at e; cases e
theorem argsOk_VT {C : Ctx} {e : Env} (hft : C.ft = ftOf FT) (henv : ∀ i, VT P C (tys i) (look e i) (a.tmps.getD i undef)) : ∀ {ts : List Ty} {ys : List Operand} {xs : List Opd}, argsOk (ftOf FT) tys ts ys xs = true → argsVT P C ts (xs.map (val e)) (ys.map a.eval)
  | [], [], [], _ => ⟨rfl, rfl, fun i ty v x h => by simp at h⟩
  | t :: ts, y :: ys, x :: xs, h => by
    simp only [argsOk, Bool.and_eq_true] at h
    obtain ⟨h1, h2, h3⟩ := argsOk_VT hft henv h.2
    refine ⟨by simpa using h1, by simpa using h2, fun i ty v z ht hv hz => ?_⟩
    cases i with
    | zero =>
      simp at ht hv hz
      subst ht hv hz
      exact opd_VT (C := C) (by rw [hft]; exact h.1) henv
    | succ i => exact h3 i ty v z (by simpa using ht) (by simpa using hv) (by simpa using hz)
  | [], [], _ :: _, h => by simp [argsOk] at h
  | [], _ :: _, _, h => by simp [argsOk] at h
  | _ :: _, [], _, h => by simp [argsOk] at h
  | _ :: _, _ :: _, [], h => by simp [argsOk] at h
theorem bodied_run {f : Nat} (h : bodied P f = true) (args : Array Value) : (callFunc f args).run P w = .ok (.enter f args) w := by
  unfold bodied at h
  split at h
  · rename_i fn hf
    simp only [Bool.and_eq_true, bne_iff_ne, ne_eq] at h
    cases hb : fn.body with
    | none => rw [hb] at h; simp at h
    | some c => simp [callFunc, hf, h.1, hb]
  · cases h
theorem exec_call {c : Call} {f : Nat} (ho : o.op = .call c) (hc : c.callee = .value (.func f)) (hb : bodied P f = true) : (execOp a.eval o).run P w = .ok (.enter f (c.args.map a.eval)) w := by
  have := bodied_run (P := P) (w := w) hb (c.args.map a.eval)
  simp [execOp, ho, resolve, hc, Act.eval, Deferred.ofValue, invoke, this]

/-- What comes back, put in its place. -/
theorem call_done {N d f : Nat} {v : V} {u : Hp} {n : Nat} {ρ : Nat → Option Loc} {own : Nat → Prop} (hb0 : RelB P E tys (fun h => h < s.next) s a w ρ own) (hN : a.tmps.size = N) (hdf : a.defers = []) (hd : o.dst = some d) (hlt : d < N) (hty : tys d = resT (FT f).rs)
    {x : Value} {w' : World} {ρ' : Nat → Option Loc} {own' : Nat → Prop} (res : CallRes P FT f E s.g s.next w ρ own v u n x w' ρ' own') : RelN P E N tys (addU (fun h => h < s.next) s.next n) (s.after (some d) v u n) (a.put o.dst x) w' := by
  refine ⟨⟨ρ', own', ?_⟩, by rw [put_size, hN], by rw [put_defers, hdf]⟩
  rw [hd, addU_lt res.next]
  exact
    { heap := by
        have := res.heap
        have e1 : (s.after (some d) v u n).g = fun h => match ulast u h with | some b => some b | none => s.g h := funext (after_g s _ v u n)
        rw [e1]; exact this
      env := env_put hb0.env res.le (d := some d) (v := v) (x := x) (fun k hk => by injection hk with hk; subst hk; exact ⟨by rw [hN]; exact hlt, by rw [hty]; exact res.val⟩)
      tail := fun β hβ h b h1 h2 h3 => by
        have h1' : hlook (hputs s.hp u) h = none := h1
        rw [hlook_hputs] at h1'
        cases hu : ulast u h with
        | some y => rw [hu] at h1'; cases h1'
        | none =>
          rw [hu] at h1'
          have hg : s.g h = some b := by simp only [St.g, h1']; exact h2
          exact res.tail β (Nat.le_trans hβ hb0.base) h b hu hg (hb0.tail β hβ h b h1' h2 h3)
      le := hb0.le.trans res.le
      nd := nodup_hputs u hb0.nd
      start := hb0.start
      dom := hb0.dom
      base := Nat.le_trans hb0.base res.next
      below := res.below
      bsize := res.bsize }
/-- A call of a function value. -/
theorem op_cav {N d f : Nat} {x : Opd} {xs : List Opd} {c : Call} {y : Operand} {t : TypeId} {pts rts : Array TypeId} {vd : Bool} {first caps : List V} {v : V} {u : Hp} {n : Nat} {rec : Task → Option Ans} (hcs : CallSnd P FT rec) (hft : E.ft = ftOf FT) (hr : RelN P E N tys (fun h => h < s.next) s a w) (ho : o.op = .call c) (hd : o.dst = some d) (hlt : d < N)
    (hc : c.callee = .value y) (hy : opdOk (ftOf FT) tys (.o (.fn t)) y x = true) (hu : P.underlying t = some (.func pts rts vd)) (hargs : argsOk (ftOf FT) tys (pts.toList.map (tyOf P)) c.args.toList xs = true) (hty : tys d = resT (rts.toList.map (tyOf P)))
    (hv : val s.env x = .clo f first caps) (he : rec (.call f (first ++ xs.map (val s.env) ++ caps) s.g s.next) = some (.val v u n)) {K : Act → World → Prop} {Q : Exit → Act → World → Prop}
    (hK : ∀ a' w', RelN P E N tys (addU (fun h => h < s.next) s.next n) (s.after (some d) v u n) a' w' → K a' w') : o.wp P a w K Q := by
  obtain ⟨⟨ρ, own, hb0⟩, hN, hdf⟩ := hr
  have hvy := opd_VT (P := P) (C := cx E w.heap own ρ) (by rw [show (cx E w.heap own ρ).ft = ftOf FT from hft]; exact hy) hb0.env
  rw [hv] at hvy
  obtain ⟨h1, _, h3⟩ := hvy.vs rfl
  have hc1 := h3 rfl
  rw [hc1] at h1
  generalize hcs' : (#[a.eval y] : Array Value).toList = cs at h1
  cases h1 with
  | @clo _ _ _ fa ca _ q0 q1 q2 q3 q4 q5 q6 q7 q8 q9 q10 =>
    have hye : a.eval y = .func (.func f) fa ca := by simpa using hcs'
    have q0 : (first.length, t) ∈ (FT f).sgs := by
      have : ((cx E w.heap own ρ).ft f).2.2 = (FT f).sgs := by
        show (E.ft f).2.2 = _
        rw [hft]; rfl
      rw [← this]; exact q0
    have eps : ((cx E w.heap own ρ).ft f).1 = (FT f).ps := by
      show (E.ft f).1 = _
      rw [hft]; rfl
    have ecps : ((cx E w.heap own ρ).ft f).2.1 = (FT f).cps := by
      show (E.ft f).2.1 = _
      rw [hft]; rfl
    rw [eps] at q1 q7 q9
    rw [ecps] at q2 q8 q10
    have hsg := hcs.1 f
    simp only [sgsOk, Bool.and_eq_true, List.all_eq_true] at hsg
    have hs1 := hsg.1 _ q0
    simp only [hu, Bool.and_eq_true, decide_eq_true_eq] at hs1
    obtain ⟨⟨g1, g2⟩, g3⟩ := hs1
    have hbod : bodied P f = true := by
      have := hsg.2
      rw [Bool.or_eq_true, List.isEmpty_iff] at this
      rcases this with k | k
      · rw [k] at q0; cases q0
      · exact k
    unfold Oper.wp
    have hex : (execOp a.eval o).run P w = .ok (.enter f (fa ++ c.args.map a.eval ++ ca)) w := by
      have := bodied_run (P := P) (w := w) hbod (fa ++ c.args.map a.eval ++ ca)
      rw [Array.append_assoc] at this ⊢
      simp [execOp, ho, resolve, hc, hye, Deferred.ofValue, invoke, this]
    rw [hex]
    obtain ⟨k1, k2, k3⟩ := argsOk_VT (P := P) (FT := FT) (a := a) (e := s.env) (C := cx E w.heap own ρ) hft hb0.env hargs
    have hva : argsVT P (cx E w.heap own ρ) ((FT f).ps ++ (FT f).cps) (first ++ xs.map (val s.env) ++ caps) (fa ++ c.args.map a.eval ++ ca).toList := by
      have hsplit : (FT f).ps = (FT f).ps.take first.length ++ pts.toList.map (tyOf P) := by rw [← g1, List.take_append_drop]
      have hl1 : ((FT f).ps.take first.length).length = first.length := by simp; omega
      refine ⟨?_, ?_, fun i ty v' z ht hv' hz => ?_⟩
      · rw [hsplit]; simp only [List.length_append, hl1, k1, q2]
      · rw [hsplit]
        simp only [Array.toList_append, List.length_append, hl1]
        have : (c.args.map a.eval).toList.length = (pts.toList.map (tyOf P)).length := by rw [Array.toList_map]; exact k2
        rw [this]
        simp [q3, q4, q2]
      · simp only [Array.toList_append] at hz
        have hz1 : fa.toList.length = first.length := by simpa using q3
        have hz2 : (c.args.map a.eval).toList.length = (pts.toList.map (tyOf P)).length := by rw [Array.toList_map]; exact k2
        by_cases hi : i < first.length
        · rw [List.append_assoc, List.getElem?_append_left hi] at hv'
          rw [List.append_assoc, List.getElem?_append_left (by omega)] at hz
          rw [List.getElem?_append_left (by omega)] at ht
          have hna := q7 i ty hi ht
          have hz' : fa[i]? = some z := by simpa using hz
          have hcz := q5 i z hz'
          exact .mk (VS.of_single' (q9 i ty v' z ht hv' hz') hna hcz)
        · by_cases hi2 : i < first.length + (pts.toList.map (tyOf P)).length
          · rw [List.append_assoc, List.getElem?_append_right (by omega), List.getElem?_append_left (by rw [k1]; omega)] at hv'
            rw [List.append_assoc, List.getElem?_append_right (by omega), List.getElem?_append_left (by omega)] at hz
            have hps : ((FT f).ps ++ (FT f).cps)[i]? = (pts.toList.map (tyOf P))[i - first.length]? := by
              have hpl : (FT f).ps.length = first.length + (pts.toList.map (tyOf P)).length := by rw [hsplit, List.length_append, hl1]
              rw [List.getElem?_append_left (by omega), ← g1, List.getElem?_drop]
              congr 1; omega
            rw [hps] at ht
            rw [hz1] at hz
            exact k3 (i - first.length) ty v' z ht hv' (by rw [Array.toList_map] at hz; exact hz)
          · have hpl : (FT f).ps.length = first.length + (pts.toList.map (tyOf P)).length := by rw [hsplit, List.length_append, hl1]
            rw [List.getElem?_append_right (by simp only [List.length_append, k1]; omega)] at hv'
            rw [List.getElem?_append_right (by simp only [List.length_append]; omega)] at hz
            rw [List.getElem?_append_right (by omega)] at ht
            have e1 : i - (first ++ xs.map (val s.env)).length = i - (FT f).ps.length := by simp only [List.length_append, k1, hpl]
            have e2 : i - (fa.toList ++ (c.args.map a.eval).toList).length = i - (FT f).ps.length := by simp only [List.length_append, hz1, hz2, hpl]
            rw [e1] at hv'
            rw [e2] at hz
            have hz' : ca[i - (FT f).ps.length]? = some z := by simpa using hz
            exact .mk (VS.of_single' (q10 _ ty v' z ht hv' hz') (q8 _ ty ht) (q6 _ z hz'))
    refine Calls.mono (hcs.2 f _ _ _ v u n he E ρ own w _ hft hb0.heap hb0.bsize hb0.below hva) ?_
    rintro e w' ⟨x, rfl, ρ', own', res⟩
    exact hK _ _ (call_done hb0 hN hdf hd hlt (by rw [hty, g2]) res)

/-- A call whose memory is one's own. -/
theorem op_cal {N d f : Nat} {xs : List Opd} {c : Call} {v : V} {u : Hp} {n : Nat} {rec : Task → Option Ans} (hcs : CallSnd P FT rec) (hft : E.ft = ftOf FT) (hr : RelN P E N tys (fun h => h < s.next) s a w) (ho : o.op = .call c) (hd : o.dst = some d) (hlt : d < N)
    (hc : c.callee = .value (.func f)) (hb : bodied P f = true) (hargs : argsOk (ftOf FT) tys (FT f).ps c.args.toList xs = true) (hcp : (FT f).cps = []) (hty : tys d = resT (FT f).rs)
    (he : rec (.call f (xs.map (val s.env)) s.g s.next) = some (.val v u n)) {K : Act → World → Prop} {Q : Exit → Act → World → Prop}
    (hK : ∀ a' w', RelN P E N tys (addU (fun h => h < s.next) s.next n) (s.after (some d) v u n) a' w' → K a' w') : o.wp P a w K Q := by
  obtain ⟨⟨ρ, own, hb0⟩, hN, hdf⟩ := hr
  unfold Oper.wp
  rw [exec_call ho hc hb]
  have hva : argsVT P (cx E w.heap own ρ) ((FT f).ps ++ (FT f).cps) (xs.map (val s.env)) (c.args.map a.eval).toList := by
    rw [hcp, List.append_nil, Array.toList_map]
    exact argsOk_VT (FT := FT) (C := cx E w.heap own ρ) hft hb0.env hargs
  refine Calls.mono (hcs.2 f _ _ _ v u n he E ρ own w _ hft hb0.heap hb0.bsize hb0.below hva) ?_
  rintro e w' ⟨x, rfl, ρ', own', res⟩
  refine hK _ _ ⟨⟨ρ', own', ?_⟩, by rw [put_size, hN], by rw [put_defers, hdf]⟩
  rw [hd, addU_lt res.next]
  exact
    { heap := by
        have := res.heap
        have e1 : (s.after (some d) v u n).g = fun h => match ulast u h with | some b => some b | none => s.g h := funext (after_g s _ v u n)
        rw [e1]; exact this
      env := env_put hb0.env res.le (d := some d) (v := v) (x := x) (fun k hk => by injection hk with hk; subst hk; exact ⟨by rw [hN]; exact hlt, by rw [hty]; exact res.val⟩)
      tail := fun β hβ h b h1 h2 h3 => by
        have h1' : hlook (hputs s.hp u) h = none := h1
        rw [hlook_hputs] at h1'
        cases hu : ulast u h with
        | some y => rw [hu] at h1'; cases h1'
        | none =>
          rw [hu] at h1'
          have hg : s.g h = some b := by simp only [St.g, h1']; exact h2
          exact res.tail β (Nat.le_trans hβ hb0.base) h b hu hg (hb0.tail β hβ h b h1' h2 h3)
      le := hb0.le.trans res.le
      nd := nodup_hputs u hb0.nd
      start := hb0.start
      dom := hb0.dom
      base := Nat.le_trans hb0.base res.next
      below := res.below
      bsize := res.bsize }
end
end Go.Fw
namespace Go.Fw
open Go Go.RowKit
variable {P : Program} {FT : Nat → FTy}

theorem toDs_get {g : Nat → Option Blk} : ∀ {l : List V} {m : List D}, toDs g l = some m → m.length = l.length ∧ ∀ (i : Nat) (v : V) (d : D), l[i]? = some v → m[i]? = some d → toD g v = some d
  | [], m, h => by simp [toDs] at h; subst h; exact ⟨rfl, fun i v d hv => by simp at hv⟩
  | w :: l, m, h => by
    simp only [toDs] at h
    split at h
    · rename_i x y h1 h2
      injection h with h; subst h
      obtain ⟨k1, k2⟩ := toDs_get h2
      refine ⟨by simp [k1], fun i v d hv hd => ?_⟩
      cases i with
      | zero => simp at hv hd; subst hv hd; exact h1
      | succ i => exact k2 i v d (by simpa using hv) (by simpa using hd)
    · cases h
mutual
theorem toD_flat {g : Nat → Option Blk} : ∀ (v : V) {d : D}, toD g v = some d → d.flat = true → v.pure? = some d
  | .int k n, d, h, _ => by simpa [toD, V.pure?] using h
  | .bool b, d, h, _ => by simpa [toD, V.pure?] using h
  | .d x, d, h, _ => by simpa [toD, V.pure?] using h
  | .agg l, d, h, hf => by
    simp only [toD] at h
    split at h
    · rename_i m hm
      injection h with h; subst h
      simp only [V.pure?, toDs_flat l hm hf, Option.map_some]
    · cases h
  | .asl n l, d, h, hf => by simp only [toD] at h; injection h with h; subst h; simp [D.flat] at hf
  | .sl n hh off len, d, h, hf => by
    simp only [toD] at h
    split at h
    · split at h
      · injection h with h; subst h; simp [D.flat] at hf
      · cases h
    · cases h
  | .ptr _ _, d, h, _ => by simp [toD] at h
  | .rp _, d, h, _ => by simp [toD] at h
  | .clo _ _ _, d, h, _ => by simp [toD] at h
  | .map _, d, h, _ => by simp [toD] at h
  | .tup _, d, h, _ => by simp [toD] at h
  | .und, d, h, _ => by simp [toD] at h
theorem toDs_flat {g : Nat → Option Blk} : ∀ (l : List V) {m : List D}, toDs g l = some m → D.flats m = true → V.pures? l = some m
  | [], m, h, _ => by simp [toDs] at h; subst h; rfl
  | v :: l, m, h, hf => by
    simp only [toDs] at h
    split at h
    · rename_i x y h1 h2
      injection h with h; subst h
      simp only [D.flats, Bool.and_eq_true] at hf
      simp only [V.pures?, toD_flat v h1 hf.1, toDs_flat l h2 hf.2]
    · cases h
end
theorem argVs_get : ∀ (l : List D) (i : Nat), (argVs l)[i]? = (l[i]?).map argV
  | [], i => by simp [argVs]
  | x :: l, 0 => by simp [argVs]
  | x :: l, i + 1 => by simp [argVs, argVs_get l i]
theorem argVs_length : ∀ (l : List D), (argVs l).length = l.length
  | [] => rfl
  | x :: l => by simp [argVs, argVs_length l]
theorem argV_of_RD {H : Array Obj} {S : Nat → Prop} {C0 : Ctx} (hH : C0.H = H) (hS : ∀ b, S b → C0.S b) (hF : ∀ b, S b → C0.F b) {ty : Ty} {d : D} {cs : List Value} (h : RD P H S ty d cs) : VR P C0 ty (argV d) cs := by
  induction h with
  | int h => exact .int h
  | bool => exact .bool
  | str h => exact .d (.str h) rfl
  | @struct t fs ds cs h1 h0 h2 h3 h4 ih =>
    simp only [argV]
    split
    · refine .d (.struct h1 h0 h2 h3 (fun i f d hf hd => ?_)) rfl
      rw [hH]; exact (h4 i f d hf hd).mono' hS (fun _ _ => rfl)
    · refine .struct h1 h0 h2 (by rw [argVs_length, h3]) (fun i f v hf hv => ?_)
      rw [argVs_get, Option.map_eq_some_iff] at hv
      obtain ⟨d, hd, rfl⟩ := hv
      exact ih i f d hf hd
  | @array t n e ds cs h1 h0 h2 h3 h4 ih =>
    simp only [argV]
    split
    · refine .d (.array h1 h0 h2 h3 (fun i d hd => ?_)) rfl
      rw [hH]; exact (h4 i d hd).mono' hS (fun _ _ => rfl)
    · refine .array h1 h0 h2 (by rw [argVs_length, h3]) (fun i v hv => ?_)
      rw [argVs_get, Option.map_eq_some_iff] at hv
      obtain ⟨d, hd, rfl⟩ := hv
      exact ih i d hd
  | nil => exact .asl (.inl ⟨rfl, rfl, rfl⟩)
  | @slice e l b o cap sp gg h1 h2 h3 h4 h5 h6 _ =>
    refine .asl (.inr ⟨rfl, b, o, cap, sp, gg, rfl, h1, h2, h3, fun hl => hF _ (h4 hl), ?_, fun i d hd => ?_⟩)
    · rw [hH]; exact h5
    · rw [hH]; exact (h6 i d hd).mono' hS (fun _ _ => rfl)
theorem toD_VR {C C0 : Ctx} {own : Nat → Prop} {g : Nat → Option Blk} (hg : ∀ h b, g h = some b → BR P C own h b) (hH : C0.H = C.H) (hS : ∀ b, C.S b → C0.S b) (hF : ∀ b, C.F b → C0.F b) (hSF : ∀ b, C.S b → C0.F b) (hO : ∀ b, own b → C0.F b) {ty : Ty} {v : V} {cs : List Value} (h : VR P C ty v cs) :
    ∀ {d : D}, toD g v = some d → VR P C0 ty (argV d) cs := by
  induction h with
  | int h => intro d e; simp [toD] at e; subst e; exact .int h
  | bool => intro d e; simp [toD] at e; subst e; exact .bool
  | d h _ => intro d e; simp [toD] at e; subst e; exact argV_of_RD hH hS hSF h
  | @struct t fs vs cs h1 h0 h2 h3 h4 ih =>
    intro d e
    simp only [toD] at e
    split at e
    · rename_i m hm
      injection e with e; subst e
      obtain ⟨hl, hget⟩ := toDs_get hm
      simp only [argV]
      split
      · rename_i hfl
        have hp := (VR.struct h1 h0 h2 h3 h4).pure (x := .agg m) (by simp only [V.pure?, toDs_flat vs hm hfl, Option.map_some])
        refine .d ?_ rfl
        rw [hH]; exact hp.mono' hS (fun _ _ => rfl)
      · refine .struct h1 h0 h2 (by rw [argVs_length, hl, h3]) (fun i f v hf hv => ?_)
        rw [argVs_get, Option.map_eq_some_iff] at hv
        obtain ⟨d, hd, rfl⟩ := hv
        have hi : i < vs.length := by rw [← hl]; exact (List.getElem?_eq_some_iff.1 hd).1
        exact ih i f vs[i] hf (List.getElem?_eq_getElem hi) (hget i _ d (List.getElem?_eq_getElem hi) hd)
    · cases e
  | @array t n e0 vs cs h1 h0 h2 h3 h4 ih =>
    intro d e
    simp only [toD] at e
    split at e
    · rename_i m hm
      injection e with e; subst e
      obtain ⟨hl, hget⟩ := toDs_get hm
      simp only [argV]
      split
      · rename_i hfl
        have hp := (VR.array h1 h0 h2 h3 h4).pure (x := .agg m) (by simp only [V.pure?, toDs_flat vs hm hfl, Option.map_some])
        refine .d ?_ rfl
        rw [hH]; exact hp.mono' hS (fun _ _ => rfl)
      · refine .array h1 h0 h2 (by rw [argVs_length, hl, h3]) (fun i v hv => ?_)
        rw [argVs_get, Option.map_eq_some_iff] at hv
        obtain ⟨d, hd, rfl⟩ := hv
        have hi : i < vs.length := by rw [← hl]; exact (List.getElem?_eq_some_iff.1 hd).1
        exact ih i vs[i] (List.getElem?_eq_getElem hi) (hget i _ d (List.getElem?_eq_getElem hi) hd)
    · cases e
  | asl h1 =>
    intro d e
    simp [toD] at e; subst e
    rcases h1 with k | ⟨hn, b, o, cap, sp, gg, k1, k2, k3, k4, k5, k6, k7⟩
    · exact .asl (.inl k)
    · refine .asl (.inr ⟨hn, b, o, cap, sp, gg, k1, k2, k3, k4, fun hl => hF _ (k5 hl), ?_, fun i d hd => ?_⟩)
      · rw [hH]; exact k6
      · rw [hH]; exact (k7 i d hd).mono' hS (fun _ _ => rfl)
  | @sl e0 n h off len v hs =>
    intro d e
    simp only [toD] at e
    split at e
    · rename_i o l hgh
      split at e
      · rename_i m hm
        injection e with e; subst e
        rcases hs.data (hg h _ hgh) hm with ⟨rfl, rfl, rfl⟩ | ⟨rfl, b, oo, cap, sp, gg, rfl, q1, q2, q3, q4, q5, q6⟩
        · exact .asl (.inl ⟨rfl, rfl, rfl⟩)
        · refine .asl (.inr ⟨rfl, b, oo, cap, sp, gg, rfl, q1, q2, q3, fun hl => ?_, ?_, fun i d hd => ?_⟩)
          · obtain ⟨r1, _⟩ := q4 hl
            cases o with
            | true => exact hO b r1
            | false => exact hSF b r1
          · rw [hH]; exact q5
          · rw [hH]; exact (q6 i d hd).mono' hS (fun _ _ => rfl)
      · cases e
    · cases e
  | ptr _ => intro d e; simp [toD] at e
  | rp _ _ _ => intro d e; simp [toD] at e
  | map _ _ _ => intro d e; simp [toD] at e
  | clo => intro d e; simp [toD] at e
  | und _ => intro d e; simp [toD] at e

/-! ### What was handed back -/
mutual
def okV : V → Bool
  | .int _ _ => true
  | .bool _ => true
  | .d _ => true
  | .agg l => okVs l
  | .sl _ _ _ _ => true
  | _ => false
def okVs : List V → Bool
  | [] => true
  | v :: l => okV v && okVs l
end
theorem okVs_get : ∀ {l : List V}, okVs l = true → ∀ (i : Nat) (v : V), l[i]? = some v → okV v = true
  | [], _, i, v, hv => by simp at hv
  | w :: l, h, i, v, hv => by
    simp only [okVs, Bool.and_eq_true] at h
    cases i with
    | zero => simp at hv; subst hv; exact h.1
    | succ i => exact okVs_get h.2 i v (by simpa using hv)
mutual
theorem adopt_spec : ∀ (x : D) (n : Nat), okV (adopt n x).1 = true ∧ n ≤ (adopt n x).2.2 ∧ ∀ p ∈ (adopt n x).2.1, (∃ l, p.2 = .row true l) ∧ n ≤ p.1 ∧ p.1 < (adopt n x).2.2
  | .int _ _, n => ⟨rfl, Nat.le_refl _, fun p hp => by simp [adopt] at hp⟩
  | .bool _, n => ⟨rfl, Nat.le_refl _, fun p hp => by simp [adopt] at hp⟩
  | .str _, n => ⟨rfl, Nat.le_refl _, fun p hp => by simp [adopt] at hp⟩
  | .sl a l, n => by
    simp only [adopt]
    split
    · exact ⟨rfl, Nat.le_refl _, fun p hp => by simp at hp⟩
    · exact ⟨rfl, Nat.le_succ _, fun p hp => by simp at hp ⊢; subst hp; simp⟩
  | .agg l, n => by
    simp only [adopt]
    split
    · exact ⟨rfl, Nat.le_refl _, fun p hp => by simp at hp⟩
    · obtain ⟨h1, h2, h3⟩ := adopts_spec l n
      exact ⟨h1, h2, h3⟩
theorem adopts_spec : ∀ (l : List D) (n : Nat), okVs (adopts n l).1 = true ∧ n ≤ (adopts n l).2.2 ∧ ∀ p ∈ (adopts n l).2.1, (∃ l, p.2 = .row true l) ∧ n ≤ p.1 ∧ p.1 < (adopts n l).2.2
  | [], n => ⟨rfl, Nat.le_refl _, fun p hp => by simp [adopts] at hp⟩
  | x :: l, n => by
    obtain ⟨h1, h2, h3⟩ := adopt_spec x n
    obtain ⟨k1, k2, k3⟩ := adopts_spec l (adopt n x).2.2
    simp only [adopts]
    refine ⟨by simp [okVs, h1, k1], Nat.le_trans h2 k2, fun p hp => ?_⟩
    rcases List.mem_append.1 hp with hp | hp
    · obtain ⟨a, b, c⟩ := h3 p hp; exact ⟨a, b, Nat.lt_of_lt_of_le c k2⟩
    · obtain ⟨a, b, c⟩ := k3 p hp; exact ⟨a, Nat.le_trans h2 b, c⟩
end
theorem VR.monoS {C C' : Ctx} (hH : C'.H = C.H) (hS : ∀ b, C.S b → C'.S b) (hρ : ∀ h L, C.ρ h = some L → C'.ρ h = some L) {ty : Ty} {v : V} {cs : List Value} (h : VR P C ty v cs) : okV v = true → VR P C' ty v cs := by
  induction h with
  | int h => intro _; exact .int h
  | bool => intro _; exact .bool
  | d h1 h2 => intro _; refine .d ?_ h2; rw [hH]; exact h1.mono' hS (fun _ _ => rfl)
  | struct h1 h0 h2 h3 _ ih => intro hk; exact .struct h1 h0 h2 h3 (fun i f v hf hv => ih i f v hf hv (okVs_get hk i v hv))
  | array h1 h0 h2 h3 _ ih => intro hk; exact .array h1 h0 h2 h3 (fun i v hv => ih i v hv (okVs_get hk i v hv))
  | asl h1 => intro hk; cases hk
  | sl h1 => intro _; exact .sl (h1.mono hρ)
  | ptr h1 => intro hk; cases hk
  | rp h1 h2 h3 => intro hk; cases hk
  | map h1 h2 h3 => intro hk; cases hk
  | clo => intro hk; cases hk
  | und h1 => intro hk; cases hk
theorem VT.monoS {C C' : Ctx} (hH : C'.H = C.H) (hS : ∀ b, C.S b → C'.S b) (hρ : ∀ h L, C.ρ h = some L → C'.ρ h = some L) {tt : TTy} {vs : List V} {x : Value} (h : VT P C tt (resV vs) x) (hk : okVs vs = true) : VT P C' tt (resV vs) x := by
  have one : ∀ {v : V}, okV v = true → VT P C tt v x → VT P C' tt v x := by
    intro v hv h
    rcases h with h | h | h
    · exact .inl h
    · exact .inr (.inl h)
    · cases tt with
      | o ty => exact .inr (.inr ⟨h.1.monoS hH hS hρ hv, h.2⟩)
      | t l => obtain ⟨ws, zs, h1, _⟩ := h; subst h1; cases hv
  cases vs with
  | nil =>
    rcases h with h | h | h
    · exact .inl h
    · exact .inr (.inl h)
    · cases tt with
      | o ty =>
        have h1 := h.1
        simp only [resV] at h1
        cases h1
      | t l =>
        obtain ⟨ws, zs, h1, h2, h3, h4, _⟩ := h
        simp only [resV] at h1
        injection h1 with h1; subst h1
        exact .inr (.inr ⟨[], zs, rfl, h2, h3, h4, fun i ty v w _ hv => by simp at hv⟩)
  | cons v vs =>
    cases vs with
    | nil => exact one (okVs_get hk 0 v rfl) h
    | cons v2 vs =>
      rcases h with h | h | h
      · exact .inl h
      · exact .inr (.inl h)
      · cases tt with
        | o ty =>
          have h1 := h.1
          simp only [resV] at h1
          cases h1
        | t l =>
          obtain ⟨ws, zs, h1, h2, h3, h4, h5⟩ := h
          simp only [resV] at h1
          injection h1 with h1; subst h1
          refine .inr (.inr ⟨_, zs, rfl, h2, h3, h4, fun i ty v' w' ht hv hw => ?_⟩)
          rcases h5 i ty v' w' ht hv hw with k | k
          · exact .inl k
          · exact .inr ⟨k.1.monoS hH hS hρ (okVs_get hk i v' hv), k.2⟩
end Go.Fw
namespace Go.Fw
open Go Go.RowKit
variable {P : Program} {FT : Nat → FTy}
section
variable {E : Fr} {tys : Nat → TTy} {U : Nat → Prop} {s : St} {a : Act} {w : World} {o : Oper}

def joinρ (n n' : Nat) (ρ ρ' : Nat → Option Loc) (h : Nat) : Option Loc := if n ≤ h ∧ h < n' then ρ' h else ρ h

theorem dat_join {N d f : Nat} {args : Array Value} {rs : List D} {v : V} {u : Hp} {n : Nat} {ρ : Nat → Option Loc} {own : Nat → Prop} (hb0 : RelB P E tys U s a w ρ own) (hN : a.tmps.size = N) (hdf : a.defers = [])
    (hU : ∀ h, s.next ≤ h → h < n → ¬ U h) (hd : o.dst = some d) (hlt : d < N) (hty : tys d = resT (FT f).rs)
    (h1 : resV (adopts s.next rs).1 = v) (h2 : (adopts s.next rs).2.1 = u) (h3 : (adopts s.next rs).2.2 = n) (hex : (execOp a.eval o).run P w = .ok (.enter f args) w)
    (hcl : Calls P f args w (fun e w' => ∃ x, e = .returned x ∧ Below w.heap.size w w' ∧ DataRes P FT f (cx E w.heap own ρ).S w w' rs x)) {K : Act → World → Prop} {Q : Exit → Act → World → Prop}
    (hK : ∀ a' w', RelN P E N tys (addU U s.next n) (s.after (some d) v u n) a' w' → K a' w') : o.wp P a w K Q := by
  unfold Oper.wp
  rw [hex]
  refine Calls.mono hcl ?_
  rintro e w' ⟨x, rfl, hbel, hres⟩
  obtain ⟨ρc, ownc, hheap, hval⟩ := hres s.next
  obtain ⟨g1, g2, g3⟩ := adopts_spec rs s.next
  rw [h2] at hheap g3
  rw [h3] at hheap g2 g3
  have hown : ∀ b, ownc b → w.heap.size ≤ b ∧ b < w'.heap.size := fun b hb => hheap.bnd b hb
  have hnoU : ∀ h L, ρ h = some L → ¬ (s.next ≤ h ∧ h < n) := fun h L hL hh => hU h hh.1 hh.2 (hb0.heap.fresh h L hL)
  have ev : Evo w.heap w'.heap own (fun b => own b ∨ ownc b) ρ (joinρ s.next n ρ ρc) (fun _ => False) :=
    ⟨hbel.size, fun b hb _ => hbel.block b hb, fun _ h => h.elim, fun b hb => by
      rcases hb with k | k
      · exact .inl k
      · exact .inr (hown b k), fun b hb _ => .inl hb, fun h L hL => by
      unfold joinρ; rw [if_neg (hnoU h L hL)]; exact hL⟩
  have hSS : ∀ b, (cx (dfr FT (cx E w.heap own ρ).S w) w'.heap ownc ρc).S b → (cx E w'.heap (fun b => own b ∨ ownc b) (joinρ s.next n ρ ρc)).S b := by
    intro b hb
    refine ⟨hb.1, fun ho => ?_, fun hlt => ?_⟩
    · rcases ho with ho | ho
      · have h5 := (hb0.heap.bnd b ho).2
        exact (hb.2.2 h5).2.1 ho
      · exact hb.2.1 ho
    · have h5 : b < w.heap.size := Nat.lt_of_lt_of_le hlt hb0.bsize
      exact (hb.2.2 h5).2.2 hlt
  have hρρ : ∀ h L, ρc h = some L → joinρ s.next n ρ ρc h = some L := by
    intro h L hL
    unfold joinρ
    rw [if_pos (hheap.fresh h L hL)]
    exact hL
  refine hK _ _ ⟨⟨joinρ s.next n ρ ρc, fun b => own b ∨ ownc b, ?_⟩, by rw [put_size, hN], by rw [put_defers, hdf]⟩
  rw [hd]
  have hblk : ∀ h y, ulast u h = some y → BR P (cx (dfr FT (cx E w.heap own ρ).S w) w'.heap ownc ρc) ownc h y ∧ ∃ l, y = .row true l := by
    intro h y hy
    obtain ⟨⟨l, hl⟩, _⟩ := g3 _ (ulast_mem hy)
    exact ⟨hheap.blk h y hy, l, hl⟩
  refine hb0.step ev (by rw [← h3]; rw [h3]; exact g2) ⟨hbel.os, hbel.tape, hbel.output⟩ (fun _ h => h.elim) (fun h L hL => ?_) (fun h y hy => ?_) (fun h h' y y' L L' b e1 o1 r1 b1 r2 b2 o2 hh => ?_) (fun k hk => ?_)
  · unfold joinρ at hL
    split at hL
    · rename_i hr; exact .inr hr
    · exact .inl hL
  · obtain ⟨hbr, l, rfl⟩ := hblk h y hy
    obtain ⟨L, k1, k2, k3⟩ := hbr
    refine ⟨L, hρρ h L k1, k2, ?_⟩
    rcases k3 with k3 | ⟨b, c', te, q1, q2, q3, q4, q5, q6⟩
    · exact .inl k3
    · refine .inr ⟨b, c', te, q1, q2, q3, q4, ?_, fun i dd hdd => (q6 i dd hdd).mono' hSS (fun _ _ => rfl)⟩
      simp only [if_true] at q5 ⊢
      exact .inr q5
  · obtain ⟨hbr, l, rfl⟩ := hblk h y e1
    obtain ⟨L0, k1, k2, k3⟩ := hbr
    have e0 := hρρ h L0 k1
    rw [r1] at e0; injection e0 with e0; subst e0
    rcases hh with hh | ⟨_, hg⟩
    · obtain ⟨hbr', l', rfl⟩ := hblk h' y' hh
      obtain ⟨L1, k1', k2', k3'⟩ := hbr'
      have e0 := hρρ h' L1 k1'
      rw [r2] at e0; injection e0 with e0; subst e0
      exact hheap.apart h h' _ _ L L' b e1 hh rfl rfl k1 k1' b1 b2
    · exfalso
      have hob := hheap.own_of e1 rfl k1 b1
      have h5 := (hown b hob).1
      have hL' : ρ h' = some L' := by
        have hbr' := hb0.heap.blk h' y' hg
        by_cases hdd : y' = .dead
        · subst hdd; cases o2
        · obtain ⟨L1, hL1⟩ := hbr'.locd hdd
          have hL1 : ρ h' = some L1 := hL1
          have := ev.locs h' L1 hL1
          rw [r2] at this; injection this with this; subst this
          exact hL1
      have := (hb0.heap.bnd b (hb0.heap.own_of hg o2 hL' b2)).2
      omega
  · injection hk with hk; subst hk
    refine ⟨by rw [hN]; exact hlt, ?_⟩
    rw [hty, ← h1]
    exact VT.monoS (C := cx (dfr FT (cx E w.heap own ρ).S w) w'.heap ownc ρc) (C' := cx E w'.heap (fun b => own b ∨ ownc b) (joinρ s.next n ρ ρc)) rfl hSS hρρ hval g1
theorem op_dat {N d f : Nat} {xs : List Opd} {c : Call} {v : V} {u : Hp} {n : Nat} {rec : Task → Option Ans} (hds : DataSnd P FT rec) (hft : E.ft = ftOf FT) (hr : RelN P E N tys U s a w) (hU : ∀ h, s.next ≤ h → h < n → ¬ U h) (ho : o.op = .call c) (hd : o.dst = some d) (hlt : d < N)
    (hc : c.callee = .value (.func f)) (hb : bodied P f = true) (hargs : argsOk (ftOf FT) tys (FT f).ps c.args.toList xs = true) (hcp : (FT f).cps = []) (hty : tys d = resT (FT f).rs)
    (he : opRes rec (.dat d f xs) s.env s.g s.next = some (v, u, n)) {K : Act → World → Prop} {Q : Exit → Act → World → Prop}
    (hK : ∀ a' w', RelN P E N tys (addU U s.next n) (s.after (some d) v u n) a' w' → K a' w') : o.wp P a w K Q := by
  obtain ⟨⟨ρ, own, hb0⟩, hN, hdf⟩ := hr
  simp only [opRes] at he
  split at he
  · rename_i ds hds'
    split at he
    · rename_i rs hrs
      injection he with he; injection he with h1 h2; injection h2 with h2 h3
      have hva0 : argsVT P (cx E w.heap own ρ) (FT f).ps (xs.map (val s.env)) (c.args.map a.eval).toList := by
        rw [Array.toList_map]
        exact argsOk_VT (FT := FT) (C := cx E w.heap own ρ) hft hb0.env hargs
      obtain ⟨hdl, hdg⟩ := toDs_get hds'
      have hva : argsVT P (cx (dfr FT (cx E w.heap own ρ).S w) w.heap (fun _ => False) (fun _ => none)) (FT f).ps (ds.map argV) (c.args.map a.eval).toList := by
        obtain ⟨k1, k2, k3⟩ := hva0
        refine ⟨by rw [List.length_map, hdl, k1], k2, fun i ty v x ht hv hx => ?_⟩
        rw [List.getElem?_map, Option.map_eq_some_iff] at hv
        obtain ⟨dd, hdd, rfl⟩ := hv
        have hi : i < (xs.map (val s.env)).length := by rw [← hdl]; exact (List.getElem?_eq_some_iff.1 hdd).1
        have hvi := List.getElem?_eq_getElem hi
        have hto := hdg i _ dd hvi hdd
        have hvt := k3 i ty _ x ht hvi hx
        generalize (xs.map (val s.env))[i] = vi at hto hvt
        have hne : vi.isUnd = false := by
          cases vi <;> first | rfl | (simp [toD] at hto; done)
        have hvs := hvt.vs hne
        refine .mk ⟨toD_VR (C0 := cx (dfr FT (cx E w.heap own ρ).S w) w.heap (fun _ => False) (fun _ => none)) (own := own) (g := s.g) (fun h b hb => hb0.heap.blk h b hb) rfl (fun b hb => ⟨hb.1, id, fun _ => hb⟩) (fun b hb => ⟨hb.1, id⟩) (fun b hb => ⟨hb.1, id⟩) (fun b hb => ⟨(hb0.heap.bnd b hb).2, id⟩) hvs.1 hto, hvs.2⟩
      exact dat_join hb0 hN hdf hU hd hlt hty h1 h2 h3 (exec_call ho hc hb) (hds.1 false f ds rs hrs hcp (cx E w.heap own ρ).S w _ hva) hK
    · cases he
  · cases he

theorem op_daf {N d f : Nat} {xs : List Opd} {c : Call} {v : V} {u : Hp} {n : Nat} {rec : Task → Option Ans} (hds : DataSnd P FT rec) (hft : E.ft = ftOf FT) (hr : RelN P E N tys U s a w) (hU : ∀ h, s.next ≤ h → h < n → ¬ U h) (ho : o.op = .call c) (hd : o.dst = some d) (hlt : d < N)
    (hc : c.callee = .value (.func f)) (hb : bodied P f = true) (hargs : argsOk (ftOf FT) tys (FT f).ps c.args.toList xs = true) (hcp : (FT f).cps = []) (hty : tys d = resT (FT f).rs)
    (he : opRes rec (.daf d f xs) s.env s.g s.next = some (v, u, n)) {K : Act → World → Prop} {Q : Exit → Act → World → Prop}
    (hK : ∀ a' w', RelN P E N tys (addU U s.next n) (s.after (some d) v u n) a' w' → K a' w') : o.wp P a w K Q := by
  obtain ⟨⟨ρ, own, hb0⟩, hN, hdf⟩ := hr
  simp only [opRes] at he
  split at he
  · rename_i ds uf hfz
    split at he
    · rename_i rs hrs
      injection he with he; injection he with h1 h2; injection h2 with h2 h3
      have hva0 : argsVT P (cx E w.heap own ρ) (FT f).ps (xs.map (val s.env)) (c.args.map a.eval).toList := by
        rw [Array.toList_map]
        exact argsOk_VT (FT := FT) (C := cx E w.heap own ρ) hft hb0.env hargs
      have hdl := freezes_len _ hfz
      obtain ⟨own', hb', le, hRD⟩ := hb0.freeze hfz
      have hva : argsVT P (cx (dfr FT (cx E w.heap own' ρ).S w) w.heap (fun _ => False) (fun _ => none)) (FT f).ps (ds.map ofD) (c.args.map a.eval).toList := by
        obtain ⟨k1, k2, k3⟩ := hva0
        refine ⟨by rw [List.length_map, hdl, k1], k2, fun i ty v x ht hv hx => ?_⟩
        rw [List.getElem?_map, Option.map_eq_some_iff] at hv
        obtain ⟨dd, hdd, rfl⟩ := hv
        have hi : i < (xs.map (val s.env)).length := by rw [← hdl]; exact (List.getElem?_eq_some_iff.1 hdd).1
        have hvi := List.getElem?_eq_getElem hi
        have hvt := k3 i ty _ x ht hvi hx
        have hne : ((xs.map (val s.env))[i]).isUnd = false := by
          obtain ⟨u', hfi, _⟩ := freezes_get _ hfz i _ dd hvi hdd
          generalize (xs.map (val s.env))[i] = vi at hfi
          cases vi <;> first | rfl | (simp [Fw.freeze] at hfi; done)
        have hvs := hvt.vs hne
        have hrd := hRD i _ dd _ _ hvi hdd hvs.1
        refine .mk ⟨?_, hvs.2⟩
        exact ofD_VR (hrd.mono' (S' := (cx (dfr FT (cx E w.heap own' ρ).S w) w.heap (fun _ => False) (fun _ => none)).S) (fun b hb => ⟨hb.1, id, fun _ => hb⟩) (fun _ _ => rfl))
      have es : (s.after none .und uf s.next).after (some d) v (adopts s.next rs).2.1 n = s.after (some d) v u n := by
        simp only [St.after, putO, ← h2, hputs_append]
      refine dat_join (s := s.after none .und uf s.next) hb' hN hdf hU hd hlt hty h1 rfl h3 (exec_call ho hc hb) (hds.1 true f ds rs hrs hcp (cx E w.heap own' ρ).S w _ hva) (fun a' w' hr' => hK a' w' ?_)
      have en : (s.after none .und uf s.next).next = s.next := rfl
      rw [en, es] at hr'
      exact hr'
    · cases he
  · cases he
theorem okVs_ofD : ∀ (rs : List D), okVs (rs.map ofD) = true
  | [] => rfl
  | x :: rs => by
    simp only [List.map_cons, okVs, okVs_ofD rs, Bool.and_true]
    cases x <;> rfl
theorem das_join {N d f : Nat} {args : Array Value} {rs : List D} {ρ : Nat → Option Loc} {own : Nat → Prop} (hb0 : RelB P E tys U s a w ρ own) (hN : a.tmps.size = N) (hdf : a.defers = [])
    (hd : o.dst = some d) (hlt : d < N) (hty : tys d = resT (FT f).rs) (hex : (execOp a.eval o).run P w = .ok (.enter f args) w)
    (hcl : Calls P f args w (fun e w' => ∃ x, e = .returned x ∧ Below w.heap.size w w' ∧ VT P (cx (dfr FT (cx E w.heap own ρ).S w) w'.heap (fun _ => False) (fun _ => none)) (resT (FT f).rs) (resV (rs.map ofD)) x)) {K : Act → World → Prop} {Q : Exit → Act → World → Prop}
    (hK : ∀ a' w', RelN P E N tys (addU U s.next s.next) (s.after (some d) (resV (rs.map ofD)) [] s.next) a' w' → K a' w') : o.wp P a w K Q := by
  unfold Oper.wp
  rw [hex]
  refine Calls.mono hcl ?_
  rintro e w' ⟨x, rfl, hbel, hval⟩
  have ev : Evo w.heap w'.heap own own ρ ρ (fun _ => False) :=
    ⟨hbel.size, fun b hb _ => hbel.block b hb, fun _ h => h.elim, fun b hb => .inl hb, fun b hb _ => hb, fun h L hL => hL⟩
  have hSS : ∀ b, (cx (dfr FT (cx E w.heap own ρ).S w) w'.heap (fun _ => False) (fun _ => none)).S b → (cx E w'.heap own ρ).S b := by
    intro b hb
    refine ⟨hb.1, fun ho => ?_, fun hlt => ?_⟩
    · have h5 := (hb0.heap.bnd b ho).2
      exact (hb.2.2 h5).2.1 ho
    · have h5 : b < w.heap.size := Nat.lt_of_lt_of_le hlt hb0.bsize
      exact (hb.2.2 h5).2.2 hlt
  refine hK _ _ ⟨⟨ρ, own, ?_⟩, by rw [put_size, hN], by rw [put_defers, hdf]⟩
  rw [hd]
  refine hb0.step ev (Nat.le_refl _) ⟨hbel.os, hbel.tape, hbel.output⟩ (fun _ h => h.elim) (fun h L hL => .inl hL) (fun h y hy => by simp [ulast] at hy) (fun h h' y y' L L' b e1 o1 r1 b1 r2 b2 o2 hh => by simp [ulast] at e1) (fun k hk => ?_)
  injection hk with hk; subst hk
  refine ⟨by rw [hN]; exact hlt, ?_⟩
  rw [hty]
  exact VT.monoS (C := cx (dfr FT (cx E w.heap own ρ).S w) w'.heap (fun _ => False) (fun _ => none)) (C' := cx E w'.heap own ρ) rfl hSS (fun h L hL => by cases hL) hval (okVs_ofD rs)
theorem op_das {N d f : Nat} {xs : List Opd} {c : Call} {v : V} {u : Hp} {n : Nat} {rec : Task → Option Ans} (hds : DataSnd P FT rec) (hft : E.ft = ftOf FT) (hr : RelN P E N tys U s a w) (ho : o.op = .call c) (hd : o.dst = some d) (hlt : d < N)
    (hc : c.callee = .value (.func f)) (hb : bodied P f = true) (hargs : argsOk (ftOf FT) tys (FT f).ps c.args.toList xs = true) (hcp : (FT f).cps = []) (hty : tys d = resT (FT f).rs)
    (he : opRes rec (.das d f xs) s.env s.g s.next = some (v, u, n)) {K : Act → World → Prop} {Q : Exit → Act → World → Prop}
    (hK : ∀ a' w', RelN P E N tys (addU U s.next n) (s.after (some d) v u n) a' w' → K a' w') : o.wp P a w K Q := by
  obtain ⟨⟨ρ, own, hb0⟩, hN, hdf⟩ := hr
  simp only [opRes] at he
  split at he
  · rename_i ds uf hfz
    split at he
    · rename_i rs hrs
      injection he with he; injection he with h1 h2; injection h2 with h2 h3; subst h1 h2 h3
      have hva0 : argsVT P (cx E w.heap own ρ) (FT f).ps (xs.map (val s.env)) (c.args.map a.eval).toList := by
        rw [Array.toList_map]
        exact argsOk_VT (FT := FT) (C := cx E w.heap own ρ) hft hb0.env hargs
      have hdl := freezes_len _ hfz
      obtain ⟨own', hb', le, hRD⟩ := hb0.freeze hfz
      have hva : argsVT P (cx (dfr FT (cx E w.heap own' ρ).S w) w.heap (fun _ => False) (fun _ => none)) (FT f).ps (ds.map ofD) (c.args.map a.eval).toList := by
        obtain ⟨k1, k2, k3⟩ := hva0
        refine ⟨by rw [List.length_map, hdl, k1], k2, fun i ty v x ht hv hx => ?_⟩
        rw [List.getElem?_map, Option.map_eq_some_iff] at hv
        obtain ⟨dd, hdd, rfl⟩ := hv
        have hi : i < (xs.map (val s.env)).length := by rw [← hdl]; exact (List.getElem?_eq_some_iff.1 hdd).1
        have hvi := List.getElem?_eq_getElem hi
        have hvt := k3 i ty _ x ht hvi hx
        have hne : ((xs.map (val s.env))[i]).isUnd = false := by
          obtain ⟨u', hfi, _⟩ := freezes_get _ hfz i _ dd hvi hdd
          generalize (xs.map (val s.env))[i] = vi at hfi
          cases vi <;> first | rfl | (simp [Fw.freeze] at hfi; done)
        have hvs := hvt.vs hne
        have hrd := hRD i _ dd _ _ hvi hdd hvs.1
        refine .mk ⟨?_, hvs.2⟩
        exact ofD_VR (hrd.mono' (S' := (cx (dfr FT (cx E w.heap own' ρ).S w) w.heap (fun _ => False) (fun _ => none)).S) (fun b hb => ⟨hb.1, id, fun _ => hb⟩) (fun _ _ => rfl))
      have es : (s.after none .und uf s.next).after (some d) (resV (rs.map ofD)) [] s.next = s.after (some d) (resV (rs.map ofD)) uf s.next := by
        simp only [St.after, putO, hputs]
      refine das_join (s := s.after none .und uf s.next) hb' hN hdf hd hlt hty (exec_call ho hc hb) (hds.2 f ds rs hrs hcp (cx E w.heap own' ρ).S w _ hva) (fun a' w' hr' => hK a' w' ?_)
      have en : (s.after none .und uf s.next).next = s.next := rfl
      rw [en, es] at hr'
      exact hr'
    · cases he
  · cases he
theorem freeze_not {g : Nat → Option Blk} {v : V} {y : D} {u0 : Hp} (h : freeze g v = some (y, u0)) : v.isUnd = false ∧ ∀ l, v ≠ .tup l := by
  cases v <;> first | exact ⟨rfl, fun l k => by cases k⟩ | (simp [Fw.freeze] at h; done)
/-- What a call gave is kept as data. -/
theorem RelN.fz {N d : Nat} {v : V} {u u0 : Hp} {n : Nat} {y : D} (hr : RelN P E N tys U (s.after (some d) v u n) a w) (hf : freeze (s.after (some d) v u n).g v = some (y, u0)) : RelN P E N tys U (s.after (some d) (ofD y) (u ++ u0) n) a w := by
  obtain ⟨⟨ρ, own, hb0⟩, hN, hdf⟩ := hr
  have hfs : freezes (s.after (some d) v u n).g [v] = some ([y], u0) := by simp [freezes, hf]
  obtain ⟨own', hb', le, hRD⟩ := hb0.freeze hfs
  have eh : hputs s.hp (u ++ u0) = hputs (hputs s.hp u) u0 := hputs_append _ _ _
  have es : s.after (some d) (ofD y) (u ++ u0) n = { ((s.after (some d) v u n).after none .und u0 n) with env := put s.env d (ofD y) } := by
    simp only [St.after, putO, eh]
  rw [es]
  refine ⟨⟨ρ, own', ?_⟩, hN, hdf⟩
  exact
    { heap := hb'.heap
      env := fun i => by
        show VT P (cx E w.heap own' ρ) (tys i) (look (put s.env d (ofD y)) i) (a.tmps.getD i undef)
        rw [look_put]
        split
        · rename_i hdi
          subst hdi
          have h0 := hb0.env d
          have e0 : look (s.after (some d) v u n).env d = v := by
            show look (put s.env d v) d = v
            rw [look_put, if_pos rfl]
          rw [e0] at h0
          obtain ⟨hnu, hnt⟩ := freeze_not hf
          cases ht : tys d with
          | o ty =>
            rw [ht] at h0
            have hvs := h0.vs hnu
            have hrd := hRD 0 v y ty _ rfl rfl hvs.1
            exact .mk ⟨ofD_VR hrd, hvs.2⟩
          | t l =>
            rw [ht] at h0
            rcases h0 with k | ⟨k, _⟩ | ⟨vs, ws, k, _⟩
            · subst k; cases hnu
            · exact absurd k (hnt _)
            · exact absurd k (hnt _)
        · have h1 := hb'.env i
          rename_i hne
          have e1 : look ((s.after (some d) v u n).after none .und u0 n).env i = look s.env i := by
            show look (put s.env d v) i = _
            rw [look_put, if_neg hne]
          rw [← e1]; exact h1
      tail := hb'.tail
      le := hb'.le
      nd := hb'.nd
      start := hb'.start
      dom := hb'.dom
      base := hb'.base
      below := hb'.below
      bsize := hb'.bsize }
theorem op_cad {N d f : Nat} {xs : List Opd} {c : Call} {v : V} {u u0 : Hp} {n : Nat} {y : D} {rec : Task → Option Ans} (hcs : CallSnd P FT rec) (hft : E.ft = ftOf FT) (hr : RelN P E N tys (fun h => h < s.next) s a w) (ho : o.op = .call c) (hd : o.dst = some d) (hlt : d < N)
    (hc : c.callee = .value (.func f)) (hb : bodied P f = true) (hargs : argsOk (ftOf FT) tys (FT f).ps c.args.toList xs = true) (hcp : (FT f).cps = []) (hty : tys d = resT (FT f).rs)
    (he : rec (.call f (xs.map (val s.env)) s.g s.next) = some (.val v u n)) (hf : freeze (gup s.g u) v = some (y, u0)) {K : Act → World → Prop} {Q : Exit → Act → World → Prop}
    (hK : ∀ a' w', RelN P E N tys (addU (fun h => h < s.next) s.next n) (s.after (some d) (ofD y) (u ++ u0) n) a' w' → K a' w') : o.wp P a w K Q :=
  op_cal hcs hft hr ho hd hlt hc hb hargs hcp hty he (fun a' w' h => hK a' w' (h.fz (by rw [after_gup]; exact hf)))
end
end Go.Fw
namespace Go.Fw
open Go Go.RowKit
variable {P : Program} {FT : Nat → FTy}
def KI.isCal : KI → Bool
  | .cal _ _ _ _ => true
  | .cav _ _ _ => true
  | .cad _ _ _ _ => true
  | _ => false
section
variable {E : Fr} {tys : Nat → TTy} {U : Nat → Prop} {s : St} {a : Act} {w : World} {o : Oper}

theorem op_wp {N : Nat} {i : KI} {v : V} {u : Hp} {n : Nat} {rec : Task → Option Ans} (hcs : CallSnd P FT rec) (hds : DataSnd P FT rec) (hft : E.ft = ftOf FT) (hok : callsOk P FT tys o.op i = true) (hd : o.dst = i.dst) (hlt : ∀ d, i.dst = some d → d < N)
    (hr : RelN P E N tys U s a w) (hU : ∀ h, s.next ≤ h → h < n → ¬ U h) (hcal : i.isCal = true → U = fun h => h < s.next) (he : opRes rec i s.env s.g s.next = some (v, u, n)) {K : Act → World → Prop} {Q : Exit → Act → World → Prop}
    (hK : ∀ a' w', RelN P E N tys (addU U s.next n) (s.after i.dst v u n) a' w' → K a' w') : o.wp P a w K Q := by
  generalize hop : o.op = op at hok
  unfold callsOk at hok
  split at hok
  · rename_i c d f xs nt
    simp only [Bool.and_eq_true, decide_eq_true_eq, List.isEmpty_iff] at hok
    obtain ⟨⟨⟨⟨h1, h2⟩, h3⟩, h4⟩, h5⟩ := hok
    have hUe := hcal rfl
    subst hUe
    split at h1
    · rename_i f' hc
      have := of_decide_eq_true h1
      subst this
      simp only [opRes] at he
      split at he
      · rename_i v' u' n' hrec
        split at he
        · cases he
        injection he with he; injection he with e1 e2; injection e2 with e2 e3; subst e1 e2 e3
        exact op_cal hcs hft hr hop hd (hlt d rfl) hc h5 h2 h3 h4 hrec hK
      · cases he
    · cases h1
  · rename_i c d f xs
    simp only [Bool.and_eq_true, decide_eq_true_eq, List.isEmpty_iff] at hok
    obtain ⟨⟨⟨⟨h1, h2⟩, h3⟩, h4⟩, h5⟩ := hok
    split at h1
    · rename_i f' hc
      have := of_decide_eq_true h1
      subst this
      exact op_dat hds hft hr hU hop hd (hlt d rfl) hc h5 h2 h3 h4 he hK
    · cases h1
  · rename_i c d f xs
    simp only [Bool.and_eq_true, decide_eq_true_eq, List.isEmpty_iff] at hok
    obtain ⟨⟨⟨⟨h1, h2⟩, h3⟩, h4⟩, h5⟩ := hok
    split at h1
    · rename_i f' hc
      have := of_decide_eq_true h1
      subst this
      exact op_daf hds hft hr hU hop hd (hlt d rfl) hc h5 h2 h3 h4 he hK
    · cases h1
  · rename_i c d f xs
    simp only [Bool.and_eq_true, decide_eq_true_eq, List.isEmpty_iff] at hok
    obtain ⟨⟨⟨⟨h1, h2⟩, h3⟩, h4⟩, h5⟩ := hok
    split at h1
    · rename_i f' hc
      have := of_decide_eq_true h1
      subst this
      exact op_das hds hft hr hop hd (hlt d rfl) hc h5 h2 h3 h4 he hK
    · cases h1
  · rename_i c d f xs nt
    simp only [Bool.and_eq_true, decide_eq_true_eq, List.isEmpty_iff] at hok
    obtain ⟨⟨⟨⟨h1, h2⟩, h3⟩, h4⟩, h5⟩ := hok
    have hUe := hcal rfl
    subst hUe
    split at h1
    · rename_i f' hc
      have := of_decide_eq_true h1
      subst this
      simp only [opRes] at he
      split at he
      · rename_i v' u' n' hrec
        split at he
        · rename_i y u0 hfz
          split at he
          · cases he
          injection he with he; injection he with e1 e2; injection e2 with e2 e3; subst e1 e2 e3
          exact op_cad hcs hft hr hop hd (hlt d rfl) hc h5 h2 h3 h4 hrec hfz hK
        · cases he
      · cases he
    · cases h1
  · rename_i c d x xs
    split at hok
    · rename_i y hc
      split at hok
      · rename_i t ht
        split at hok
        · rename_i pts rts vd hu
          simp only [Bool.and_eq_true, decide_eq_true_eq] at hok
          have hUe := hcal rfl
          subst hUe
          simp only [opRes] at he
          split at he
          · rename_i cf first caps hv
            split at he
            · rename_i v' u' n' hrec
              injection he with he; injection he with e1 e2; injection e2 with e2 e3; subst e1 e2 e3
              exact op_cav hcs hft hr hop hd (hlt d rfl) hc hok.1.1 hu hok.1.2 hok.2 hv hrec hK
            · cases he
          · cases he
        · cases hok
      · cases hok
    · cases hok
  · rename_i h1 h2 h2' h2k h2c h3
    have hok' : opOk P E.ft tys o.op i = true := by rw [hft, hop]; exact hok
    have he' : eff i s.env s.g s.next = some (v, u, n) := by
      cases i <;> first | exact he | skip
      case cal d f xs nt =>
        exfalso
        simp only [opOk] at hok
        cases op <;> simp only [Bool.false_eq_true] at hok
        rename_i c
        exact h1 c d f xs nt rfl rfl
      case dat d f xs =>
        exfalso
        simp only [opOk] at hok
        cases op <;> simp only [Bool.false_eq_true] at hok
        rename_i c
        exact h2 c d f xs rfl rfl
      case daf d f xs =>
        exfalso
        simp only [opOk] at hok
        cases op <;> simp only [Bool.false_eq_true] at hok
        rename_i c
        exact h2' c d f xs rfl rfl
      case das d f xs =>
        exfalso
        simp only [opOk] at hok
        cases op <;> simp only [Bool.false_eq_true] at hok
        rename_i c
        exact h2k c d f xs rfl rfl
      case cad d f xs nt =>
        exfalso
        simp only [opOk] at hok
        cases op <;> simp only [Bool.false_eq_true] at hok
        rename_i c
        exact h2c c d f xs nt rfl rfl
      case cav d f xs =>
        exfalso
        simp only [opOk] at hok
        cases op <;> simp only [Bool.false_eq_true] at hok
        rename_i c
        exact h3 c d f xs rfl rfl
    exact (go_op hr.1 hU hd (fun d hdd => by rw [hr.2.1]; exact hlt d hdd) hok' he').wp hr.2.1 hr.2.2 hK
end
end Go.Fw
namespace Go.Fw
open Go Go.RowKit
variable {P : Program} {FT : Nat → FTy}
section
variable {E : Fr} {tys : Nat → TTy} {U : Nat → Prop} {s : St} {a : Act} {w : World} {o : Oper}

theorem wanted_ok {ops : Array Oper} {gi : GI} {b : Bool} (hg : guardOk tys ops o.guard gi.g = true) {C : Ctx} (henv : ∀ i, VT P C (tys i) (look s.env i) (a.tmps.getD i undef)) (hw : wanted s.env gi.g = some b) : Region.wanted o (yielded ops a.tmps) = b := by
  unfold guardOk at hg
  unfold Region.wanted
  split at hg
  · rename_i h1 h2
    rw [h1]
    rw [h2] at hw
    simp only [wanted] at hw
    injection hw
  · rename_i j b0 t b0' h1 h2
    simp only [Bool.and_eq_true, decide_eq_true_eq] at hg
    obtain ⟨⟨g1, rfl⟩, g3⟩ := hg
    rw [h1]
    rw [h2] at hw
    simp only [wanted] at hw
    have hv := henv t
    rw [g3] at hv
    have hy : ∀ (r : Option Bool), (match a.tmps[t]? with | some (.bool b) => some b | _ => none) = r → yielded ops a.tmps j = r := by
      intro r hr
      unfold yielded
      rw [g1]
      exact hr
    split at hw
    · rename_i c hl
      rw [hl] at hv
      have hx := hv.bool.2
      have ht : a.tmps[t]? = some (.bool c) := by
        rw [Array.getD_eq_getD_getElem?] at hx
        cases hh : a.tmps[t]? with
        | none => rw [hh] at hx; simp [undef] at hx
        | some z => rw [hh] at hx; simp at hx; rw [hx]
      show (yielded ops a.tmps j == some b0) = b
      rw [hy (some c) (by rw [ht])]
      injection hw with hw
    · rename_i hl
      rw [hl] at hv
      have hx : a.tmps.getD t undef = undef := by
        rcases hv with hv | ⟨_, hv⟩ | hv
        · cases hv
        · exact hv
        · have := hv.1
          cases this
      have ht : a.tmps[t]? = none ∨ a.tmps[t]? = some undef := by
        rw [Array.getD_eq_getD_getElem?] at hx
        cases hh : a.tmps[t]? with
        | none => exact .inl rfl
        | some z => rw [hh] at hx; simp at hx; exact .inr (by rw [hx])
      show (yielded ops a.tmps j == some b0) = b
      rw [hy none (by rcases ht with h | h <;> rw [h] <;> rfl)]
      injection hw with hw
    · cases hw
  · cases hg

theorem RelN.skip {N : Nat} {d : Option Nat} (hr : RelN P E N tys U s a w) (hlt : ∀ k, d = some k → k < N) : RelN P E N tys U { s with env := putO s.env d (.tup []) } (a.put d undef) w := by
  obtain ⟨⟨ρ, own, hb⟩, hN, hd⟩ := hr
  refine ⟨⟨ρ, own, ?_⟩, by rw [put_size, hN], by rw [put_defers, hd]⟩
  exact hb.pure ⟨rfl, rfl, rfl, rfl⟩ (d := d) (v := .tup []) (x := undef) (fun k hk => ⟨by rw [hN]; exact hlt k hk, .inr (.inl ⟨rfl, rfl⟩)⟩)

/-- Two states that look alike. -/
structure Like (s s' : St) : Prop where
  env : ∀ i, look s.env i = look s'.env i
  hp : ∀ h, hlook s.hp h = hlook s'.hp h
  tl : s.tl = s'.tl
  base : s.base = s'.base
theorem Like.g {s s' : St} (h : Like s s') : s.g = s'.g := by
  funext x
  simp only [St.g, h.hp, h.tl]
theorem RelB.like {s s' : St} {ρ : Nat → Option Loc} {own : Nat → Prop} (hb : RelB P E tys U s a w ρ own) (hl : Like s s') (hnd : nodup (s'.hp.map (·.1)) = true) (hbase : s'.base ≤ s'.next) {U' : Nat → Prop} (hU : ∀ h, U h → U' h) : RelB P E tys U' s' a w ρ own where
  heap := by
    rw [← hl.g]
    exact ⟨hb.heap.bnd, fun h L e => hU h (hb.heap.fresh h L e), hb.heap.blk, hb.heap.apart⟩
  env := fun i => by rw [← hl.env]; exact hb.env i
  tail := fun β hβ h b h1 h2 h3 => hb.tail β (by rw [hl.base]; exact hβ) h b (by rw [hl.hp]; exact h1) (by rw [hl.tl]; exact h2) h3
  le := hb.le
  nd := hnd
  start := by rw [← hl.tl, ← hl.base]; exact hb.start
  dom := by rw [← hl.base]; exact hb.dom
  base := hbase
  below := hb.below
  bsize := hb.bsize
theorem opRes_next {rec : Task → Option Ans} {i : KI} {e : Env} {g : Nat → Option Blk} {n : Nat} {v : V} {u : Hp} {n' : Nat} (hcal : ∀ f vs g n v u n', rec (.call f vs g n) = some (.val v u n') → n ≤ n') (h : opRes rec i e g n = some (v, u, n')) : n ≤ n' := by
  have hb : ∀ {i : KI}, eff i e g n = some (v, u, n') → n ≤ n' := fun h => by
    rcases eff_next h with k | ⟨k, _⟩ <;> omega
  cases i <;> simp only [opRes] at h <;> first | exact hb h | skip
  case cal d f xs nt =>
    split at h
    · rename_i h1
      split at h
      · cases h
      injection h with h; injection h with h2 h3; injection h3 with h3 h4; subst h2 h3 h4
      exact hcal _ _ _ _ _ _ _ h1
    · cases h
  case dat d f xs =>
    split at h
    · split at h
      · injection h with h; injection h with h2 h3; injection h3 with h3 h4
        rw [← h4]
        exact (adopts_spec _ _).2.1
      · cases h
    · cases h
  case daf d f xs =>
    split at h
    · split at h
      · injection h with h; injection h with h2 h3; injection h3 with h3 h4
        rw [← h4]
        exact (adopts_spec _ _).2.1
      · cases h
    · cases h
  case das d f xs =>
    split at h
    · split at h
      · injection h with h; injection h with h2 h3; injection h3 with h3 h4
        rw [← h4]
        exact Nat.le_refl _
      · cases h
    · cases h
  case cad d f xs nt =>
    split at h
    · rename_i h1
      split at h
      · split at h
        · cases h
        injection h with h; injection h with h2 h3; injection h3 with h3 h4; subst h2 h3 h4
        exact hcal _ _ _ _ _ _ _ h1
      · cases h
    · cases h
  case cav d f xs =>
    split at h
    · split at h
      · rename_i h1
        injection h with h; injection h with h2 h3; injection h3 with h3 h4; subst h2 h3 h4
        exact hcal _ _ _ _ _ _ _ h1
      · cases h
    · cases h

variable (P FT) in
/-- Operations and their instructions, one by one. -/
def allOk (F : FTy) (ops : Array Oper) (gis : List GI) : Bool := decide (ops.size = gis.length) && (ops.toList.zip gis).all fun x => oneOk P FT F ops x.1 x.2
theorem allOk.get {F : FTy} {ops : Array Oper} {gis : List GI} (h : allOk P FT F ops gis = true) : ops.size = gis.length ∧ ∀ (i : Nat) (o : Oper) (gi : GI), ops[i]? = some o → gis[i]? = some gi → oneOk P FT F ops o gi = true := by
  simp only [allOk, Bool.and_eq_true, decide_eq_true_eq] at h
  refine ⟨h.1, fun i o gi ho hg => ?_⟩
  have hz : (ops.toList.zip gis)[i]? = some (o, gi) := by
    rw [List.getElem?_zip_eq_some]
    exact ⟨by simpa using ho, hg⟩
  exact List.all_eq_true.1 h.2 _ (List.mem_of_getElem? hz)
theorem oneOk.out {F : FTy} {ops : Array Oper} {o : Oper} {gi : GI} (h : oneOk P FT F ops o gi = true) : guardOk (tysOf F) ops o.guard gi.g = true ∧ o.dst = gi.i.dst ∧ (∀ d, gi.i.dst = some d → d < F.n) ∧ callsOk P FT (tysOf F) o.op gi.i = true := by
  simp only [oneOk, Bool.and_eq_true, decide_eq_true_eq] at h
  obtain ⟨⟨⟨h1, h2⟩, h3⟩, h4⟩ := h
  refine ⟨h1, h2, fun d hd => ?_, h4⟩
  rw [hd] at h3
  exact of_decide_eq_true h3

/-- In order. -/
theorem seq_wp {F : FTy} {ops : Array Oper} {gis0 : List GI} {rec : Task → Option Ans} (hcs : CallSnd P FT rec) (hds : DataSnd P FT rec) (hcal : ∀ f vs g n v u n', rec (.call f vs g n) = some (.val v u n') → n ≤ n') (hft : E.ft = ftOf FT) (hall : allOk P FT F ops gis0 = true)
    {Q : Exit → Act → World → Prop} {gis : List GI} {s s' : St} {ts : List (Option (V × Hp × Nat))} (ht : Tr rec gis s ts s') : ∀ (k : Nat) (a : Act) (w : World), gis0.drop k = gis → RelN P E F.n (tysOf F) (fun h => h < s.next) s a w →
      (∀ a w, RelN P E F.n (tysOf F) (fun h => h < s'.next) s' a w → Q .normal a w) → wpOps P ops Q (List.range' k gis.length) a w := by
  obtain ⟨hsz, hget⟩ := allOk.get hall
  induction ht with
  | nil =>
    intro k a w _ hr hQ
    exact hQ a w hr
  | @skip g i r s s' ts hw _ ih =>
    intro k a w hk hr hQ
    have hgk : gis0[k]? = some ⟨g, i⟩ := by
      have : (gis0.drop k)[0]? = some ⟨g, i⟩ := by rw [hk]; rfl
      simpa using this
    have hlt : k < ops.size := by rw [hsz]; exact (List.getElem?_eq_some_iff.1 hgk).1
    have hok : ops[k]? = some ops[k] := by simp [hlt]
    obtain ⟨g1, g2, g3, g4⟩ := oneOk.out (hget k _ _ hok hgk)
    have hwf : Region.wanted ops[k] (yielded ops a.tmps) = false := by
      obtain ⟨ρ, own, hb⟩ := hr.1
      exact wanted_ok (P := P) (gi := ⟨g, i⟩) g1 hb.env hw
    simp only [List.length_cons, List.range'_succ, wpOps, hok, hwf, Bool.false_eq_true, if_false]
    refine ih (k + 1) _ w (by rw [← List.drop_drop, hk]; rfl) ?_ hQ
    rw [g2]
    exact hr.skip g3
  | @go g i r s s' ts v u n hw hres _ ih =>
    intro k a w hk hr hQ
    have hgk : gis0[k]? = some ⟨g, i⟩ := by
      have : (gis0.drop k)[0]? = some ⟨g, i⟩ := by rw [hk]; rfl
      simpa using this
    have hlt : k < ops.size := by rw [hsz]; exact (List.getElem?_eq_some_iff.1 hgk).1
    have hok : ops[k]? = some ops[k] := by simp [hlt]
    obtain ⟨g1, g2, g3, g4⟩ := oneOk.out (hget k _ _ hok hgk)
    have hwf : Region.wanted ops[k] (yielded ops a.tmps) = true := by
      obtain ⟨ρ, own, hb⟩ := hr.1
      exact wanted_ok (P := P) (gi := ⟨g, i⟩) g1 hb.env hw
    have hle := opRes_next hcal hres
    simp only [List.length_cons, List.range'_succ, wpOps, hok, hwf, if_true]
    refine .inl (op_wp hcs hds hft g4 g2 g3 hr (fun h h1 _ h3 => by omega) (fun _ => rfl) hres (fun a' w' hr' => ?_))
    refine ih (k + 1) a' w' (by rw [← List.drop_drop, hk]; rfl) ?_ hQ
    rw [addU_lt hle] at hr'
    exact hr'
end
end Go.Fw
namespace Go.Fw
open Go Go.RowKit

abbrev Rs := Option (V × Hp × Nat)
def app1 (gi : GI) (t : Rs) (s : St) : St :=
  match t with
  | none => { s with env := putO s.env gi.i.dst (.tup []) }
  | some (v, u, m) => s.after gi.i.dst v u m
def keysT : Rs → List Nat
  | some (_, u, _) => u.map (·.1)
  | none => []
def foldA (A : Nat → Bool) : Nat → List GI → List Rs → St → St
  | k, gi :: r, t :: ts, s => foldA A (k + 1) r ts (if A k then app1 gi t s else s)
  | _, _, _, s => s
theorem app1_base (gi : GI) (t : Rs) (s : St) : (app1 gi t s).base = s.base ∧ (app1 gi t s).tl = s.tl := by
  cases t with
  | none => exact ⟨rfl, rfl⟩
  | some x => obtain ⟨v, u, m⟩ := x; exact ⟨rfl, rfl⟩
theorem app1_nd (gi : GI) (t : Rs) (s : St) (h : nodup (s.hp.map (·.1)) = true) : nodup ((app1 gi t s).hp.map (·.1)) = true := by
  cases t with
  | none => exact h
  | some x => obtain ⟨v, u, m⟩ := x; exact nodup_hputs u h
theorem look_putO (e : Env) (d : Option Nat) (v : V) (i : Nat) : look (putO e d v) i = if d = some i then v else look e i := by
  cases d with
  | none => simp [putO]
  | some k => simp only [putO, look_put, Option.some.injEq]
def valT : Rs → V
  | some (v, _, _) => v
  | none => .tup []
theorem app1_look (gi : GI) (t : Rs) (s : St) (i : Nat) : look (app1 gi t s).env i = if gi.i.dst = some i then valT t else look s.env i := by
  cases t with
  | none => simp only [app1, look_putO, valT]
  | some x => obtain ⟨v, u, m⟩ := x; simp only [app1, St.after, look_putO, valT]
def ulastT : Rs → Nat → Option Blk
  | some (_, u, _), h => ulast u h
  | none, _ => none
theorem app1_hlook (gi : GI) (t : Rs) (s : St) (h : Nat) : hlook (app1 gi t s).hp h = match ulastT t h with | some b => some b | none => hlook s.hp h := by
  cases t with
  | none => rfl
  | some x =>
    obtain ⟨v, u, m⟩ := x
    simp only [app1, St.after, hlook_hputs, ulastT]
    cases ulast u h <;> rfl
theorem ulastT_keys {t : Rs} {h : Nat} (hn : h ∉ keysT t) : ulastT t h = none := by
  cases t with
  | none => rfl
  | some x =>
    obtain ⟨v, u, m⟩ := x
    simp only [ulastT]
    cases hu : ulast u h with
    | none => rfl
    | some b => exact absurd (List.mem_map.2 ⟨_, ulast_mem hu, rfl⟩) hn
theorem app1_like {gi : GI} {t : Rs} {s s' : St} (h : Like s s') : Like (app1 gi t s) (app1 gi t s') :=
  ⟨fun i => by rw [app1_look, app1_look, h.env], fun x => by rw [app1_hlook, app1_hlook, h.hp], by rw [(app1_base gi t s).2, (app1_base gi t s').2, h.tl], by rw [(app1_base gi t s).1, (app1_base gi t s').1, h.base]⟩
theorem Like.refl (s : St) : Like s s := ⟨fun _ => rfl, fun _ => rfl, rfl, rfl⟩
theorem Like.symm {s s' : St} (h : Like s s') : Like s' s := ⟨fun i => (h.env i).symm, fun i => (h.hp i).symm, h.tl.symm, h.base.symm⟩
theorem Like.trans {s s' s'' : St} (h : Like s s') (k : Like s' s'') : Like s s'' := ⟨fun i => (h.env i).trans (k.env i), fun i => (h.hp i).trans (k.hp i), h.tl.trans k.tl, h.base.trans k.base⟩
theorem foldA_like {A : Nat → Bool} : ∀ {gis : List GI} {ts : List Rs} {k : Nat} {s s' : St}, Like s s' → Like (foldA A k gis ts s) (foldA A k gis ts s')
  | [], _, _, _, _, h => by simpa only [foldA] using h
  | _ :: _, [], _, _, _, h => by simpa only [foldA] using h
  | gi :: r, t :: ts, k, s, s', h => by
    simp only [foldA]
    refine foldA_like ?_
    split
    · exact app1_like h
    · exact h
theorem foldA_base {A : Nat → Bool} : ∀ {gis : List GI} {ts : List Rs} {k : Nat} {s : St}, (foldA A k gis ts s).base = s.base ∧ (foldA A k gis ts s).tl = s.tl ∧ (nodup (s.hp.map (·.1)) = true → nodup ((foldA A k gis ts s).hp.map (·.1)) = true)
  | [], _, _, _ => by refine ⟨rfl, rfl, id⟩
  | _ :: _, [], _, _ => by refine ⟨rfl, rfl, id⟩
  | gi :: r, t :: ts, k, s => by
    simp only [foldA]
    obtain ⟨h1, h2, h3⟩ := foldA_base (A := A) (gis := r) (ts := ts) (k := k + 1) (s := if A k then app1 gi t s else s)
    split at h1
    · rename_i hA
      rw [if_pos hA] at h2 h3 ⊢
      exact ⟨h1.trans (app1_base gi t s).1, h2.trans (app1_base gi t s).2, fun h => h3 (app1_nd gi t s h)⟩
    · rename_i hA
      rw [if_neg hA] at h2 h3 ⊢
      exact ⟨h1, h2, h3⟩
theorem foldA_none {A : Nat → Bool} : ∀ {gis : List GI} {ts : List Rs} {k : Nat} {s : St}, (∀ j, k ≤ j → A j = false) → foldA A k gis ts s = s
  | [], _, _, _, _ => by simp only [foldA]
  | _ :: _, [], _, _, _ => by simp only [foldA]
  | gi :: r, t :: ts, k, s, h => by
    simp only [foldA]
    rw [if_neg (by rw [h k (Nat.le_refl _)]; simp)]
    exact foldA_none (fun j hj => h j (by omega))
theorem foldA_look {A B : Nat → Bool} {i : Nat} : ∀ {gis : List GI} {ts : List Rs} {k : Nat} {s s' : St}, (∀ j gi, gis[j]? = some gi → gi.i.dst = some i → A (k + j) = B (k + j)) → look s.env i = look s'.env i → look (foldA A k gis ts s).env i = look (foldA B k gis ts s').env i
  | [], _, _, _, _, _, h => by simpa only [foldA] using h
  | _ :: _, [], _, _, _, _, h => by simpa only [foldA] using h
  | gi :: r, t :: ts, k, s, s', hd, h => by
    simp only [foldA]
    refine foldA_look (fun j gj hj hdj => by have := hd (j + 1) gj (by simpa using hj) hdj; rw [show k + 1 + j = k + (j + 1) by omega]; exact this) ?_
    have hk := hd 0 gi rfl
    simp only [Nat.add_zero] at hk
    by_cases hdi : gi.i.dst = some i
    · rw [hk hdi]
      split
      · rw [app1_look, app1_look, if_pos hdi, if_pos hdi]
      · exact h
    · split <;> split <;> simp only [app1_look, if_neg hdi, h]
theorem foldA_hlook {A B : Nat → Bool} {h : Nat} : ∀ {gis : List GI} {ts : List Rs} {k : Nat} {s s' : St}, (∀ j t, ts[j]? = some t → h ∈ keysT t → A (k + j) = B (k + j)) → hlook s.hp h = hlook s'.hp h → hlook (foldA A k gis ts s).hp h = hlook (foldA B k gis ts s').hp h
  | [], _, _, _, _, _, h => by simpa only [foldA] using h
  | _ :: _, [], _, _, _, _, h => by simpa only [foldA] using h
  | gi :: r, t :: ts, k, s, s', hd, hh => by
    simp only [foldA]
    refine foldA_hlook (fun j gj hj hdj => by have := hd (j + 1) gj (by simpa using hj) hdj; rw [show k + 1 + j = k + (j + 1) by omega]; exact this) ?_
    have hk := hd 0 t rfl
    simp only [Nat.add_zero] at hk
    by_cases hdi : h ∈ keysT t
    · rw [hk hdi]
      split
      · rw [app1_hlook, app1_hlook, hh]
      · exact hh
    · have hn := ulastT_keys hdi
      split <;> split <;> simp only [app1_hlook, hn, hh]
/-- Two that touch nothing of each other's. -/
def apart2 (g1 : GI) (t1 : Rs) (g2 : GI) (t2 : Rs) : Prop := (∀ d, g1.i.dst = some d → g2.i.dst ≠ some d) ∧ ∀ h ∈ keysT t1, h ∉ keysT t2
theorem app1_comm {g1 g2 : GI} {t1 t2 : Rs} {s : St} (ha : apart2 g1 t1 g2 t2) : Like (app1 g1 t1 (app1 g2 t2 s)) (app1 g2 t2 (app1 g1 t1 s)) := by
  refine ⟨fun i => ?_, fun h => ?_, ?_, ?_⟩
  · simp only [app1_look]
    by_cases h1 : g1.i.dst = some i
    · rw [if_pos h1, if_neg (ha.1 i h1), if_pos h1]
    · rw [if_neg h1, if_neg h1]
  · simp only [app1_hlook]
    by_cases h1 : h ∈ keysT t1
    · rw [ulastT_keys (ha.2 h h1)]
    · rw [ulastT_keys h1]
  · simp only [(app1_base _ _ _).2]
  · simp only [(app1_base _ _ _).1]
theorem foldA_comm {A : Nat → Bool} {g0 : GI} {t0 : Rs} : ∀ {gis : List GI} {ts : List Rs} {k : Nat} {s : St}, (∀ j gi t, gis[j]? = some gi → ts[j]? = some t → A (k + j) = true → apart2 g0 t0 gi t) → Like (foldA A k gis ts (app1 g0 t0 s)) (app1 g0 t0 (foldA A k gis ts s))
  | [], _, _, _, _ => by simp only [foldA]; exact Like.refl _
  | _ :: _, [], _, _, _ => by simp only [foldA]; exact Like.refl _
  | gi :: r, t :: ts, k, s, h => by
    simp only [foldA]
    have ih := fun s => foldA_comm (A := A) (g0 := g0) (t0 := t0) (gis := r) (ts := ts) (k := k + 1) (s := s) (fun j gj tj h1 h2 h3 => h (j + 1) gj tj (by simpa using h1) (by simpa using h2) (by rw [show k + (j + 1) = k + 1 + j by omega]; exact h3))
    split
    · rename_i hA
      have ha := h 0 gi t rfl rfl hA
      exact (foldA_like (app1_comm ha).symm).trans (ih _)
    · exact ih s
theorem foldA_add {A B : Nat → Bool} : ∀ {gis : List GI} {ts : List Rs} {k i : Nat} {gi : GI} {t : Rs} {s : St}, gis[i]? = some gi → ts[i]? = some t → A (k + i) = false → B (k + i) = true → (∀ j, k ≤ j → j ≠ k + i → B j = A j) →
    (∀ j gj tj, i < j → gis[j]? = some gj → ts[j]? = some tj → A (k + j) = true → apart2 gi t gj tj) → Like (foldA B k gis ts s) (app1 gi t (foldA A k gis ts s))
  | [], _, _, _, _, _, _, h, _, _, _, _, _ => by simp at h
  | _ :: _, [], _, _, _, _, _, _, h, _, _, _, _ => by simp at h
  | g :: r, t0 :: ts, k, 0, gi, t, s, h1, h2, hA, hB, hAB, hap => by
    simp at h1 h2
    subst h1 h2
    simp only [Nat.add_zero] at hA hB hAB
    simp only [foldA, hA, hB, if_true, Bool.false_eq_true, if_false]
    have e : ∀ s, Like (foldA B (k + 1) r ts s) (foldA A (k + 1) r ts s) := fun s => by
      refine ⟨fun x => foldA_look (fun j _ _ _ => hAB _ (by omega) (by omega)) rfl, fun x => foldA_hlook (fun j _ _ _ => hAB _ (by omega) (by omega)) rfl, by rw [foldA_base.2.1, foldA_base.2.1], by rw [foldA_base.1, foldA_base.1]⟩
    exact (e _).trans (foldA_comm (fun j gj tj k1 k2 k3 => hap (j + 1) gj tj (by omega) (by simpa using k1) (by simpa using k2) (by rw [show k + (j + 1) = k + 1 + j by omega]; exact k3)))
  | g :: r, t0 :: ts, k, i + 1, gi, t, s, h1, h2, hA, hB, hAB, hap => by
    simp only [foldA]
    have hk : B k = A k := hAB k (Nat.le_refl _) (by omega)
    rw [hk]
    exact foldA_add (gis := r) (ts := ts) (k := k + 1) (i := i) (by simpa using h1) (by simpa using h2) (by rw [show k + 1 + i = k + (i + 1) by omega]; exact hA) (by rw [show k + 1 + i = k + (i + 1) by omega]; exact hB)
      (fun j hj hne => hAB j (by omega) (by omega)) (fun j gj tj hj k1 k2 k3 => hap (j + 1) gj tj (by omega) (by simpa using k1) (by simpa using k2) (by rw [show k + (j + 1) = k + 1 + j by omega]; exact k3))

/-- The text's own order. -/
theorem Tr.fold {rec : Task → Option Ans} {gis : List GI} {s s' : St} {ts : List Rs} (h : Tr rec gis s ts s') : ts.length = gis.length ∧ ∀ k (A : Nat → Bool), (∀ j, k ≤ j → j < k + gis.length → A j = true) → foldA A k gis ts s = s' := by
  induction h with
  | nil => exact ⟨rfl, fun k A _ => by simp only [foldA]⟩
  | skip hw _ ih =>
    refine ⟨by simp [ih.1], fun k A hA => ?_⟩
    simp only [foldA]
    rw [if_pos (hA k (Nat.le_refl _) (by simp))]
    exact ih.2 (k + 1) A (fun j h1 h2 => hA j (by omega) (by simp at h2 ⊢; omega))
  | go hw hr _ ih =>
    refine ⟨by simp [ih.1], fun k A hA => ?_⟩
    simp only [foldA]
    rw [if_pos (hA k (Nat.le_refl _) (by simp))]
    exact ih.2 (k + 1) A (fun j h1 h2 => hA j (by omega) (by simp at h2 ⊢; omega))
/-- What is so at one of them. -/
def AtOp (rec : Task → Option Ans) (gi : GI) (t : Rs) (s : St) : Prop :=
  match t with
  | none => wanted s.env gi.g = some false
  | some (v, u, m) => wanted s.env gi.g = some true ∧ opRes rec gi.i s.env s.g s.next = some (v, u, m)
def before (k i : Nat) (j : Nat) : Bool := decide (j < k + i)
theorem Tr.at {rec : Task → Option Ans} {gis : List GI} {s s' : St} {ts : List Rs} (h : Tr rec gis s ts s') : ∀ (k i : Nat) (gi : GI) (t : Rs), gis[i]? = some gi → ts[i]? = some t → AtOp rec gi t (foldA (before k i) k gis ts s) := by
  induction h with
  | nil => intro k i gi t h; simp at h
  | @skip g i0 r s s' ts hw _ ih =>
    intro k i gi t hg ht
    cases i with
    | zero =>
      simp at hg ht
      subst hg ht
      rw [foldA_none (fun j hj => by simp [before]; omega)]
      exact hw
    | succ i =>
      simp only [foldA]
      rw [if_pos (by simp [before])]
      have := ih (k + 1) i gi t (by simpa using hg) (by simpa using ht)
      have e : before (k + 1) i = before k (i + 1) := by funext j; simp only [before]; rw [show k + 1 + i = k + (i + 1) by omega]
      rw [e] at this
      exact this
  | @go g i0 r s s' ts v u n hw hr _ ih =>
    intro k i gi t hg ht
    cases i with
    | zero =>
      simp at hg ht
      subst hg ht
      rw [foldA_none (fun j hj => by simp [before]; omega)]
      exact ⟨hw, hr⟩
    | succ i =>
      simp only [foldA]
      rw [if_pos (by simp [before])]
      have := ih (k + 1) i gi t (by simpa using hg) (by simpa using ht)
      have e : before (k + 1) i = before k (i + 1) := by funext j; simp only [before]; rw [show k + 1 + i = k + (i + 1) by omega]
      rw [e] at this
      exact this
end Go.Fw
namespace Go.Fw
open Go Go.RowKit

def edgesOf (o : Oper) : List Nat := o.after.toList.filterMap fun e => if Region.binds .any e then some e.on else none
def dedup : List Nat → List Nat → List Nat
  | [], acc => acc
  | x :: l, acc => if acc.contains x then dedup l acc else dedup l (x :: acc)
theorem dedup_mem : ∀ {l acc : List Nat} {x : Nat}, x ∈ dedup l acc → x ∈ l ∨ x ∈ acc
  | [], acc, x, h => .inr h
  | y :: l, acc, x, h => by
    simp only [dedup] at h
    split at h
    · rcases dedup_mem h with k | k
      · exact .inl (List.mem_cons_of_mem _ k)
      · exact .inr k
    · rcases dedup_mem h with k | k
      · exact .inl (List.mem_cons_of_mem _ k)
      · rcases List.mem_cons.1 k with k | k
        · subst k; exact .inl List.mem_cons_self
        · exact .inr k
def befs : List Oper → List (List Nat) → List (List Nat)
  | [], acc => acc
  | o :: r, acc => befs r (acc ++ [dedup ((edgesOf o).flatMap fun j => j :: acc.getD j []) []])
/-- Whatever is done, what had to come ahead is done. -/
def Closed (ops : Array Oper) (A : Nat → Bool) : Prop := ∀ (j : Nat) (o : Oper), ops[j]? = some o → A j = true → ∀ i ∈ edgesOf o, A i = true
theorem befs_spec {ops : Array Oper} {A : Nat → Bool} (hA : Closed ops A) : ∀ (r : List Oper) (acc : List (List Nat)), ops.toList.drop acc.length = r → (∀ j l, acc[j]? = some l → A j = true → ∀ i ∈ l, A i = true) → ∀ j l, (befs r acc)[j]? = some l → A j = true → ∀ i ∈ l, A i = true
  | [], acc, _, h => by simpa only [befs] using h
  | o :: r, acc, hd, h => by
    simp only [befs]
    refine befs_spec hA r _ ?_ ?_
    · rw [List.length_append, List.length_singleton, ← List.drop_drop, hd]; rfl
    · intro j l hj hAj i hi
      by_cases hlt : j < acc.length
      · rw [List.getElem?_append_left hlt] at hj
        exact h j l hj hAj i hi
      · rw [List.getElem?_append_right (by omega)] at hj
        have hj0 : j - acc.length = 0 := by
          have := (List.getElem?_eq_some_iff.1 hj).1
          simp at this; omega
        rw [hj0] at hj
        simp at hj
        subst hj
        have ho : ops[j]? = some o := by
          have : (ops.toList.drop acc.length)[0]? = some o := by rw [hd]; rfl
          rw [List.getElem?_drop] at this
          have hjl : j = acc.length := by omega
          rw [hjl]
          simpa using this
        rcases dedup_mem hi with k | k
        · rw [List.mem_flatMap] at k
          obtain ⟨m, hm, hi'⟩ := k
          have hAm := hA j o ho hAj m hm
          rcases List.mem_cons.1 hi' with e | e
          · subst e; exact hAm
          · cases hg : acc[m]? with
            | none => rw [hg] at e; simp at e
            | some l' => rw [hg] at e; exact h m l' hg hAm i e
        · simp at k
def KI.rd : KI → Bool
  | .ld _ _ | .tos _ _ | .st _ _ | .app _ _ _ | .cpy _ _ _ | .dat _ _ _ | .daf _ _ _ | .das _ _ _ | .bsl _ _ | .ia _ _ _ | .lk _ _ _ _ _ | .mu _ _ _ | .clr _ _ | .cvb _ _ => true
  | _ => false
def KI.wr : KI → Bool
  | .st _ _ | .app _ _ _ | .cpy _ _ _ | .bsl _ _ | .mu _ _ _ | .clr _ _ | .cvb _ _ | .alc _ _ | .box _ _ | .mks _ _ _ _ | .apz _ _ _ _ | .mkm _ | .dat _ _ _ | .daf _ _ _ | .das _ _ _ => true
  | _ => false
theorem reads_rd {i : KI} {e : Env} (h : i.rd = false) : i.reads e = [] := by
  cases i <;> first | rfl | cases h
theorem writes_wr {i : KI} {e : Env} (h : i.wr = false) : i.writes e = [] ∧ i.allocs = false := by
  cases i <;> first | exact ⟨rfl, rfl⟩ | cases h
def looksK (g : GI) : List Nat := (match g.g with | some (t, _) => [t] | none => []) ++ g.i.tmps
def apartK (a b : GI) : Bool :=
  (match a.i.dst with | some d => !(looksK b).contains d && decide (b.i.dst ≠ some d) | none => true) && (match b.i.dst with | some d => !(looksK a).contains d | none => true)
def freeOk (pairs : List (Nat × Nat)) (i j : Nat) (a b : GI) : Bool :=
  apartK a b && (if a.i.isCal then !(b.i.wr || b.i.isCal) && (!b.i.rd || pairs.contains (i, j)) else if b.i.isCal then !a.i.wr && (!a.i.rd || pairs.contains (i, j)) else (!(a.i.wr && b.i.rd || b.i.wr && a.i.rd) || pairs.contains (i, j)))
def stableAt (gis : List GI) (i : Nat) (a : GI) : Bool :=
  (gis.zipIdx 0).all fun x => match x.1.i.dst with
    | some d => (decide (x.2 < i) || !a.i.tmps.contains d) && (decide (x.2 ≤ i) || decide (a.i.dst ≠ some d))
    | none => true
def drawOk (ops : Array Oper) (gis : List GI) (pairs : List (Nat × Nat)) : Bool :=
  (ops.toList.zipIdx 0).all (fun x => (edgesOf x.1).all fun i => decide (i < x.2)) &&
  ((gis.zip (befs ops.toList [])).zipIdx 0).all (fun y => ((gis.take y.2).zipIdx 0).all fun x => y.1.2.contains x.2 || freeOk pairs x.2 y.2 x.1 y.1.1) &&
  pairs.all fun p => (match gis[p.1]?, gis[p.2]? with | some a, some b => stableAt gis p.1 a && stableAt gis p.2 b | _, _ => false)
theorem befs_length : ∀ (r : List Oper) (acc : List (List Nat)), (befs r acc).length = acc.length + r.length
  | [], acc => by simp [befs]
  | o :: r, acc => by simp only [befs]; rw [befs_length r]; simp; omega

/-- Two that are in no order. -/
def Free (pairs : List (Nat × Nat)) (i j : Nat) (a b : GI) : Prop := freeOk pairs i j a b = true
theorem drawOk.out {ops : Array Oper} {gis : List GI} {pairs : List (Nat × Nat)} (h : drawOk ops gis pairs = true) (hsz : ops.size = gis.length) :
    (∀ (j : Nat) (o : Oper), ops[j]? = some o → ∀ i ∈ edgesOf o, i < j) ∧
    (∀ (i j : Nat) (a b : GI), i < j → gis[i]? = some a → gis[j]? = some b → (∀ A, Closed ops A → A j = true → A i = true) ∨ freeOk pairs i j a b = true) ∧
    ∀ i j, (i, j) ∈ pairs → ∃ a b, gis[i]? = some a ∧ gis[j]? = some b ∧ stableAt gis i a = true ∧ stableAt gis j b = true := by
  simp only [drawOk, Bool.and_eq_true] at h
  obtain ⟨⟨h1, h2⟩, h3⟩ := h
  refine ⟨fun j o ho i hi => ?_, fun i j a b hij ha hb => ?_, fun i j hp => ?_⟩
  · have hz : (ops.toList.zipIdx 0)[j]? = some (o, j) := by
      rw [List.getElem?_zipIdx]
      simp [ho]
    have := List.all_eq_true.1 h1 _ (List.mem_of_getElem? hz)
    exact of_decide_eq_true (List.all_eq_true.1 this i hi)
  · have hlt : j < (befs ops.toList []).length := by
      rw [befs_length]
      have := (List.getElem?_eq_some_iff.1 hb).1
      simp; omega
    have hl := List.getElem?_eq_getElem hlt
    generalize (befs ops.toList [])[j] = l at hl
    have hz : ((gis.zip (befs ops.toList [])).zipIdx 0)[j]? = some ((b, l), j) := by
      rw [List.getElem?_zipIdx]
      have : (gis.zip (befs ops.toList []))[j]? = some (b, l) := by
        rw [List.getElem?_zip_eq_some]; exact ⟨hb, hl⟩
      rw [this]; simp
    have hy := List.all_eq_true.1 h2 _ (List.mem_of_getElem? hz)
    have hzi : ((gis.take j).zipIdx 0)[i]? = some (a, i) := by
      rw [List.getElem?_zipIdx, List.getElem?_take_of_lt hij, ha]; simp
    have hx := List.all_eq_true.1 hy _ (List.mem_of_getElem? hzi)
    simp only [Bool.or_eq_true] at hx
    rcases hx with hx | hx
    · refine .inl (fun A hA hAj => ?_)
      exact befs_spec hA ops.toList [] (by simp) (fun j l h => by simp at h) j l hl hAj i (by simpa [List.contains_eq_mem] using hx)
    · exact .inr hx
  · have := List.all_eq_true.1 h3 _ hp
    simp only at this
    split at this
    · rename_i a b ha hb
      simp only [Bool.and_eq_true] at this
      exact ⟨a, b, ha, hb, this.1, this.2⟩
    · cases this
theorem stableAt.out {gis : List GI} {i : Nat} {a : GI} (h : stableAt gis i a = true) : ∀ (k : Nat) (g : GI) (d : Nat), gis[k]? = some g → g.i.dst = some d → (i ≤ k → d ∉ a.i.tmps) ∧ (i < k → a.i.dst ≠ some d) := by
  intro k g d hg hd
  have hz : (gis.zipIdx 0)[k]? = some (g, k) := by
    rw [List.getElem?_zipIdx, hg]; simp
  have := List.all_eq_true.1 h _ (List.mem_of_getElem? hz)
  simp only [hd, Bool.and_eq_true, Bool.or_eq_true, decide_eq_true_eq, Bool.not_eq_true', List.contains_eq_mem, decide_eq_false_iff_not] at this
  refine ⟨fun hk => this.1.resolve_left (by omega), fun hk => this.2.resolve_left (by omega)⟩
theorem apartK.out {a b : GI} (h : apartK a b = true) : (∀ d, a.i.dst = some d → d ∉ looksK b ∧ b.i.dst ≠ some d) ∧ ∀ d, b.i.dst = some d → d ∉ looksK a := by
  simp only [apartK, Bool.and_eq_true] at h
  refine ⟨fun d hd => ?_, fun d hd => ?_⟩
  · have := h.1
    rw [hd] at this
    simpa [List.contains_eq_mem] using this
  · have := h.2
    rw [hd] at this
    simpa [List.contains_eq_mem] using this
theorem hit_false {a b : List Nat} (h : hit a b = false) : ∀ x ∈ a, x ∉ b := by
  intro x hx hb
  have : hit a b = true := by
    simp only [hit, List.any_eq_true, List.contains_eq_mem, decide_eq_true_eq]
    exact ⟨x, hx, hb⟩
  rw [this] at h; cases h
theorem meets_false {e : Env} {gis : List GI} : ∀ {pairs : List (Nat × Nat)}, meets e gis pairs = false → ∀ (i j : Nat) (a b : GI), (i, j) ∈ pairs → gis[i]? = some a → gis[j]? = some b →
    (∀ x ∈ a.i.writes e ++ a.i.fresh e, x ∉ b.i.reads e) ∧ (∀ x ∈ b.i.writes e ++ b.i.fresh e, x ∉ a.i.reads e) ∧ unspared e a.i b.i = false ∧ unspared e b.i a.i = false
  | [], _, i, j, a, b, h, _, _ => by simp at h
  | (i', j') :: l, hm, i, j, a, b, h, ha, hb => by
    simp only [meets, Bool.or_eq_false_iff] at hm
    rcases List.mem_cons.1 h with e | e
    · injection e with e1 e2; subst e1 e2
      have := hm.1
      rw [ha, hb] at this
      simp only [Bool.or_eq_false_iff] at this
      exact ⟨hit_false this.1.1.1, hit_false this.1.1.2, this.1.2, this.2⟩
    · exact meets_false hm.2 i j a b e ha hb
end Go.Fw
namespace Go.Fw
open Go Go.RowKit

theorem reads_congr {i : KI} {e e' : Env} (he : ∀ t ∈ i.tmps, look e t = look e' t) : i.reads e = i.reads e' := by
  have v1 : ∀ x ∈ i.ops, val e x = val e' x := fun x hx => val_congr fun t ht => he t (List.mem_flatMap.2 ⟨x, hx, ht⟩)
  cases i <;> simp only [KI.reads] <;> first | rfl | skip
  case dat d f xs => rw [vals_congr (e := e) (e' := e') (xs := xs) he]
  case daf d f xs => rw [vals_congr (e := e) (e' := e') (xs := xs) he]
  case das d f xs => rw [vals_congr (e := e) (e' := e') (xs := xs) he]
  case bsl d xs => rw [vals_congr (e := e) (e' := e') (xs := xs) he]
  case ld d x => rw [v1 x (by simp [KI.ops])]
  case tos d x => rw [v1 x (by simp [KI.ops])]
  case st a x => rw [v1 a (by simp [KI.ops]), v1 x (by simp [KI.ops])]
  case app d x y => rw [v1 x (by simp [KI.ops]), v1 y (by simp [KI.ops])]
  case cpy d x y => rw [v1 x (by simp [KI.ops]), v1 y (by simp [KI.ops])]
  case ia d x y => rw [v1 x (by simp [KI.ops])]
  case lk d m k z ok => rw [v1 m (by simp [KI.ops])]
  case mu m k v => rw [v1 m (by simp [KI.ops]), v1 v (by simp [KI.ops])]
  case clr z x => rw [v1 x (by simp [KI.ops])]
  case cvb d x => rw [v1 x (by simp [KI.ops])]
theorem writes_congr {i : KI} {e e' : Env} (he : ∀ t ∈ i.tmps, look e t = look e' t) : i.writes e = i.writes e' := by
  have v1 : ∀ x ∈ i.ops, val e x = val e' x := fun x hx => val_congr fun t ht => he t (List.mem_flatMap.2 ⟨x, hx, ht⟩)
  cases i <;> simp only [KI.writes] <;> first | rfl | skip
  case daf d f xs => rw [vals_congr (e := e) (e' := e') (xs := xs) he]
  case das d f xs => rw [vals_congr (e := e) (e' := e') (xs := xs) he]
  case bsl d xs => rw [vals_congr (e := e) (e' := e') (xs := xs) he]
  case st a x => rw [v1 a (by simp [KI.ops]), v1 x (by simp [KI.ops])]
  case app d x y => rw [v1 x (by simp [KI.ops])]
  case cpy d x y => rw [v1 x (by simp [KI.ops])]
  case mu m k v => rw [v1 m (by simp [KI.ops])]
  case clr z x => rw [v1 x (by simp [KI.ops])]
  case cvb d x => rw [v1 x (by simp [KI.ops])]
mutual
theorem adopt_hs : ∀ (x : D) (n : Nat), ∀ p ∈ (adopt n x).2.1, p.1 ∈ (adopt n x).1.hs
  | .int _ _, n, p, hp => by simp [adopt] at hp
  | .bool _, n, p, hp => by simp [adopt] at hp
  | .str _, n, p, hp => by simp [adopt] at hp
  | .sl a l, n, p, hp => by
    simp only [adopt] at hp ⊢
    split at hp
    · simp at hp
    · rename_i h
      rw [if_neg h]
      simp at hp
      subst hp
      simp [V.hs]
  | .agg l, n, p, hp => by
    simp only [adopt] at hp ⊢
    split at hp
    · simp at hp
    · rename_i h
      rw [if_neg h]
      exact adopts_hs l n p hp
theorem adopts_hs : ∀ (l : List D) (n : Nat), ∀ p ∈ (adopts n l).2.1, p.1 ∈ V.hss (adopts n l).1
  | [], n, p, hp => by simp [adopts] at hp
  | x :: l, n, p, hp => by
    simp only [adopts, V.hss, List.mem_append] at hp ⊢
    rcases hp with hp | hp
    · exact .inl (adopt_hs x n p hp)
    · exact .inr (adopts_hs l _ p hp)
end
theorem resV_hs (vs : List V) : ∀ h ∈ V.hss vs, h ∈ (resV vs).hs := by
  intro h hh
  cases vs with
  | nil => simp [V.hss] at hh
  | cons v vs =>
    cases vs with
    | nil => simpa [resV, V.hss] using hh
    | cons v2 vs => exact hh
/-- What one operation changes, calls on data too. -/
theorem opRes_keys {rec : Task → Option Ans} {i : KI} {e : Env} {g : Nat → Option Blk} {n : Nat} {v : V} {u : Hp} {n' : Nat} (hc : i.isCal = false) (h : opRes rec i e g n = some (v, u, n')) :
    ∀ p ∈ u, p.1 ∈ i.writes e ∨ (i.allocs = true ∧ n ≤ p.1 ∧ p.1 < n' ∧ p.1 ∈ v.hs) := by
  have main : ∀ {i : KI}, eff i e g n = some (v, u, n') → ∀ p ∈ u, p.1 ∈ i.writes e ∨ (i.allocs = true ∧ n ≤ p.1 ∧ p.1 < n' ∧ p.1 ∈ v.hs) := fun h p hp => by
    rcases eff_keys h p hp with k | ⟨k1, k2, k3, k4⟩
    · exact .inl k
    · exact .inr ⟨k1, by omega, by omega, k4⟩
  cases i <;> simp only [opRes] at h <;> first | exact main h | (cases hc; done) | skip
  case dat d f xs =>
    split at h
    · split at h
      · injection h with h; injection h with h2 h3; injection h3 with h3 h4; subst h2 h3 h4
        intro p hp
        obtain ⟨_, k1, k2⟩ := (adopts_spec _ _).2.2 p hp
        exact .inr ⟨rfl, k1, k2, resV_hs _ _ (adopts_hs _ _ p hp)⟩
      · cases h
    · cases h
  case daf d f xs =>
    split at h
    · rename_i ds u0 hfz
      split at h
      · injection h with h; injection h with h2 h3; injection h3 with h3 h4; subst h2 h3 h4
        intro p hp
        rcases List.mem_append.1 hp with hp | hp
        · exact .inl (freezes_keys _ hfz p hp)
        · obtain ⟨_, k1, k2⟩ := (adopts_spec _ _).2.2 p hp
          exact .inr ⟨rfl, k1, k2, resV_hs _ _ (adopts_hs _ _ p hp)⟩
      · cases h
    · cases h
  case das d f xs =>
    split at h
    · rename_i ds u0 hfz
      split at h
      · injection h with h; injection h with h2 h3; injection h3 with h3 h4; subst h2 h3 h4
        intro p hp
        exact .inl (freezes_keys _ hfz p hp)
      · cases h
    · cases h
theorem clash_congr {e e' : Env} {nt : List Nat} {u : Hp} (h : ∀ t ∈ nt, look e t = look e' t) : clash e nt u = clash e' nt u := by
  cases nt with
  | nil => rfl
  | cons t nt =>
    simp only [clash]
    congr 1; funext p
    rw [Bool.eq_iff_iff, List.any_eq_true, List.any_eq_true]
    constructor
    · rintro ⟨x, hx, hp⟩; exact ⟨x, hx, by rw [← h x hx]; exact hp⟩
    · rintro ⟨x, hx, hp⟩; exact ⟨x, hx, by rw [h x hx]; exact hp⟩
theorem clash_out {e : Env} {nt : List Nat} {u : Hp} (h : clash e nt u = false) {p : Nat × Blk} (hp : p ∈ u) {t : Nat} (ht : t ∈ nt) : p.1 ∉ ptrs (look e t) := by
  cases nt with
  | nil => cases ht
  | cons t' nt =>
    intro hk
    simp only [clash] at h
    have : (u.any fun p => (t' :: nt).any fun t => (ptrs (look e t)).contains p.1) = true := List.any_eq_true.2 ⟨p, hp, List.any_eq_true.2 ⟨t, ht, by simpa [List.contains_eq_mem] using hk⟩⟩
    rw [this] at h; cases h
theorem opRes_congr {rec : Task → Option Ans} {i : KI} {e e' : Env} {g g' : Nat → Option Blk} {n : Nat} (he : ∀ t ∈ i.tmps, look e t = look e' t) (hg : ∀ h ∈ i.reads e, g h = g' h) (hcal : i.isCal = true → g = g') : opRes rec i e g n = opRes rec i e' g' n := by
  have v1 : ∀ x ∈ i.ops, val e x = val e' x := fun x hx => val_congr fun t ht => he t (List.mem_flatMap.2 ⟨x, hx, ht⟩)
  cases i <;> simp only [opRes] <;> first | exact eff_congr he hg | skip
  case cal d f xs nt =>
    have h1 : ∀ t ∈ nt, look e t = look e' t := fun t ht => he t (List.mem_flatMap.2 ⟨.t t, by simp only [KI.ops, List.mem_append, List.mem_map]; exact .inr ⟨t, ht, rfl⟩, by simp [optmp]⟩)
    rw [vals_congr (e := e) (e' := e') (xs := xs) (fun t ht => he t (by simp only [KI.tmps, KI.ops, List.flatMap_append, List.mem_append]; exact .inl ht)), hcal rfl]
    simp only [clash_congr h1]
  case dat d f xs => rw [toDs_congr _ hg, vals_congr (e := e) (e' := e') (xs := xs) he]
  case daf d f xs => rw [freezes_congr _ hg, vals_congr (e := e) (e' := e') (xs := xs) he]
  case das d f xs => rw [freezes_congr _ hg, vals_congr (e := e) (e' := e') (xs := xs) he]
  case cad d f xs nt =>
    have h1 : ∀ t ∈ nt, look e t = look e' t := fun t ht => he t (List.mem_flatMap.2 ⟨.t t, by simp only [KI.ops, List.mem_append, List.mem_map]; exact .inr ⟨t, ht, rfl⟩, by simp [optmp]⟩)
    rw [vals_congr (e := e) (e' := e') (xs := xs) (fun t ht => he t (by simp only [KI.tmps, KI.ops, List.flatMap_append, List.mem_append]; exact .inl ht)), hcal rfl]
    simp only [clash_congr h1]
  case cav d f xs =>
    rw [vals_congr (e := e) (e' := e') (xs := xs) (fun t ht => he t (by simp only [KI.tmps, KI.ops, List.flatMap_cons, List.mem_append]; exact .inr ht)), v1 f (by simp [KI.ops]), hcal rfl]
theorem wanted_congr {g : Option (Nat × Bool)} {e e' : Env} (h : ∀ t b, g = some (t, b) → look e t = look e' t) : wanted e g = wanted e' g := by
  cases g with
  | none => rfl
  | some x => obtain ⟨t, b⟩ := x; simp only [wanted]; rw [h t b rfl]
theorem foldA_succ : ∀ {gis : List GI} {ts : List Rs} {k i : Nat} {gi : GI} {t : Rs} {s : St}, gis[i]? = some gi → ts[i]? = some t → foldA (before k (i + 1)) k gis ts s = app1 gi t (foldA (before k i) k gis ts s)
  | [], _, _, _, _, _, _, h, _ => by simp at h
  | _ :: _, [], _, _, _, _, _, _, h => by simp at h
  | g :: r, t0 :: ts, k, 0, gi, t, s, h1, h2 => by
    simp at h1 h2
    subst h1 h2
    simp only [foldA]
    rw [if_pos (by simp [before]), if_neg (by simp [before]), foldA_none (fun j hj => by simp [before]; omega), foldA_none (fun j hj => by simp [before]; omega)]
  | g :: r, t0 :: ts, k, i + 1, gi, t, s, h1, h2 => by
    simp only [foldA]
    rw [if_pos (by simp [before]), if_pos (by simp [before])]
    have := foldA_succ (gis := r) (ts := ts) (k := k + 1) (i := i) (gi := gi) (t := t) (s := app1 g t0 s) (by simpa using h1) (by simpa using h2)
    have e1 : before (k + 1) (i + 1) = before k (i + 1 + 1) := by funext j; simp only [before]; rw [show k + 1 + (i + 1) = k + (i + 1 + 1) by omega]
    have e2 : before (k + 1) i = before k (i + 1) := by funext j; simp only [before]; rw [show k + 1 + i = k + (i + 1) by omega]
    rw [e1, e2] at this
    exact this
theorem allocs_wr {i : KI} (h : i.allocs = true) : i.wr = true := by cases i <;> first | rfl | cases h
theorem fresh_allocs {i : KI} {e : Env} {d : Nat} (h : i.allocs = true) (hd : i.dst = some d) : i.fresh e = (look e d).hs := by
  cases i <;> first | (cases h; done) | (simp only [KI.dst, Option.some.injEq] at hd; subst hd; rfl)
theorem allocs_dst {i : KI} (h : i.allocs = true) : ∃ d, i.dst = some d := by
  cases i <;> first | (cases h; done) | exact ⟨_, rfl⟩

/-- What a drawn region's check and its run in the text's order give. -/
structure Drawn (rec : Task → Option Ans) (ops : Array Oper) (gis : List GI) (pairs : List (Nat × Nat)) (s0 sn : St) (ts : List Rs) : Prop where
  sz : ops.size = gis.length
  dr : drawOk ops gis pairs = true
  tr : Tr rec gis s0 ts sn
  ms : meets sn.env gis pairs = false
  mono : ∀ f vs g n v u n', rec (.call f vs g n) = some (.val v u n') → n ≤ n'

section
variable {rec : Task → Option Ans} {ops : Array Oper} {gis : List GI} {pairs : List (Nat × Nat)} {s0 sn : St} {ts : List Rs} (D : Drawn rec ops gis pairs s0 sn ts)
def stAt (gis : List GI) (ts : List Rs) (s0 : St) (i : Nat) : St := foldA (before 0 i) 0 gis ts s0
include D
theorem Drawn.len : ts.length = gis.length := D.tr.fold.1
theorem Drawn.last : stAt gis ts s0 gis.length = sn := D.tr.fold.2 0 _ (fun j _ h => by simp [before]; omega)
theorem Drawn.atOp {i : Nat} {gi : GI} {t : Rs} (h1 : gis[i]? = some gi) (h2 : ts[i]? = some t) : AtOp rec gi t (stAt gis ts s0 i) := D.tr.at 0 i gi t h1 h2
theorem Drawn.tsAt {i : Nat} {gi : GI} (h1 : gis[i]? = some gi) : ∃ t, ts[i]? = some t := ⟨_, List.getElem?_eq_getElem (by rw [D.len]; exact (List.getElem?_eq_some_iff.1 h1).1)⟩
theorem Drawn.next {i : Nat} {gi : GI} {t : Rs} (h1 : gis[i]? = some gi) (h2 : ts[i]? = some t) : (stAt gis ts s0 (i + 1)).next = (match t with | some (_, _, m) => m | none => (stAt gis ts s0 i).next) ∧ (stAt gis ts s0 i).next ≤ (stAt gis ts s0 (i + 1)).next := by
  have e : stAt gis ts s0 (i + 1) = app1 gi t (stAt gis ts s0 i) := foldA_succ h1 h2
  rw [e]
  have hat := D.atOp h1 h2
  cases t with
  | none => exact ⟨rfl, Nat.le_refl _⟩
  | some x =>
    obtain ⟨v, u, m⟩ := x
    exact ⟨rfl, opRes_next D.mono hat.2⟩
theorem Drawn.nextMono {i j : Nat} (h : i ≤ j) (hj : j ≤ gis.length) : (stAt gis ts s0 i).next ≤ (stAt gis ts s0 j).next := by
  induction j with
  | zero => have : i = 0 := by omega
            subst this; exact Nat.le_refl _
  | succ j ih =>
    by_cases hij : i = j + 1
    · subst hij; exact Nat.le_refl _
    · have hlt : j < gis.length := by omega
      obtain ⟨t, ht⟩ := D.tsAt (List.getElem?_eq_getElem hlt)
      exact Nat.le_trans (ih (by omega) (by omega)) (D.next (List.getElem?_eq_getElem hlt) ht).2
/-- Operands that nobody writes behind are at the end as they were. -/
theorem Drawn.stable {i : Nat} {a : GI} {t : Rs} (h1 : gis[i]? = some a) (h2 : ts[i]? = some t) (hs : stableAt gis i a = true) : (∀ x ∈ a.i.tmps, look sn.env x = look (stAt gis ts s0 i).env x) ∧ ∀ d, a.i.dst = some d → look sn.env d = valT t := by
  have hlt := (List.getElem?_eq_some_iff.1 h1).1
  have hst := stableAt.out hs
  refine ⟨fun x hx => ?_, fun d hd => ?_⟩
  · rw [← D.last]
    refine foldA_look (fun j gj hj hdj => ?_) rfl
    have hjl := (List.getElem?_eq_some_iff.1 hj).1
    have := (hst j gj x hj hdj).1
    by_cases hij : i ≤ j
    · exact absurd hx (this hij)
    · simp [before, hjl]; omega
  · rw [← D.last]
    have e : stAt gis ts s0 (i + 1) = app1 a t (stAt gis ts s0 i) := foldA_succ h1 h2
    have e2 : look (stAt gis ts s0 gis.length).env d = look (stAt gis ts s0 (i + 1)).env d := by
      refine foldA_look (fun j gj hj hdj => ?_) rfl
      have hjl := (List.getElem?_eq_some_iff.1 hj).1
      have := (hst j gj d hj hdj).2
      by_cases hij : i < j
      · exact absurd hd (this hij)
      · simp [before, hjl]; omega
    rw [e2, e, app1_look, if_pos hd]
end
end Go.Fw
namespace Go.Fw
open Go Go.RowKit
section
variable {rec : Task → Option Ans} {ops : Array Oper} {gis : List GI} {pairs : List (Nat × Nat)} {s0 sn : St} {ts : List Rs} (D : Drawn rec ops gis pairs s0 sn ts)
def Uno (pairs : List (Nat × Nat)) (i j : Nat) (a b : GI) : Prop := (i < j ∧ freeOk pairs i j a b = true) ∨ (j < i ∧ freeOk pairs j i b a = true)
theorem Uno.symm {i j : Nat} {a b : GI} (h : Uno pairs i j a b) : Uno pairs j i b a := by
  rcases h with h | h
  · exact .inr h
  · exact .inl h
theorem Uno.apart {i j : Nat} {a b : GI} (h : Uno pairs i j a b) : (∀ d, b.i.dst = some d → d ∉ looksK a) ∧ ∀ d, a.i.dst = some d → b.i.dst ≠ some d := by
  rcases h with ⟨_, h⟩ | ⟨_, h⟩
  · simp only [freeOk, Bool.and_eq_true] at h
    obtain ⟨h1, h2⟩ := apartK.out h.1
    exact ⟨h2, fun d hd => (h1 d hd).2⟩
  · simp only [freeOk, Bool.and_eq_true] at h
    obtain ⟨h1, h2⟩ := apartK.out h.1
    exact ⟨fun d hd => (h1 d hd).1, fun d hd hd' => (h1 d hd').2 hd⟩
/-- Of memory: a call is apart from all that touch it; else a pair is listed. -/
theorem Uno.mem {i j : Nat} {a b : GI} (h : Uno pairs i j a b) : (a.i.isCal = true → (b.i.rd = true → (i, j) ∈ pairs ∨ (j, i) ∈ pairs) ∧ b.i.wr = false ∧ b.i.isCal = false) ∧ (a.i.isCal = false → b.i.isCal = false → a.i.rd = true → b.i.wr = true → (i, j) ∈ pairs ∨ (j, i) ∈ pairs) := by
  rcases h with ⟨_, h⟩ | ⟨_, h⟩
  · simp only [freeOk, Bool.and_eq_true] at h
    have h2 := h.2
    refine ⟨fun hc => ?_, fun hc hc' hr hw => ?_⟩
    · rw [if_pos hc] at h2
      simp only [Bool.and_eq_true, Bool.not_eq_true', Bool.or_eq_false_iff, Bool.or_eq_true] at h2
      refine ⟨fun hr => ?_, h2.1.1, h2.1.2⟩
      rcases h2.2 with h3 | h3
      · rw [hr] at h3; cases h3
      · exact .inl (by simpa [List.contains_eq_mem] using h3)
    · rw [if_neg (by simp [hc]), if_neg (by simp [hc'])] at h2
      simp only [hr, hw, Bool.and_self, Bool.or_true, Bool.not_true, Bool.false_or] at h2
      exact .inl (by simpa [List.contains_eq_mem] using h2)
  · simp only [freeOk, Bool.and_eq_true] at h
    have h2 := h.2
    refine ⟨fun hc => ?_, fun hc hc' hr hw => ?_⟩
    · by_cases hb : b.i.isCal = true
      · rw [if_pos hb] at h2
        simp only [hc, Bool.or_true, Bool.not_true, Bool.false_and, Bool.false_eq_true] at h2
      · rw [if_neg hb, if_pos hc] at h2
        simp only [Bool.and_eq_true, Bool.not_eq_true', Bool.or_eq_true] at h2
        refine ⟨fun hr => ?_, h2.1, by simpa using hb⟩
        rcases h2.2 with h3 | h3
        · rw [hr] at h3; cases h3
        · exact .inr (by simpa [List.contains_eq_mem] using h3)
    · rw [if_neg (by simp [hc']), if_neg (by simp [hc])] at h2
      simp only [hr, hw, Bool.and_self, Bool.true_or, Bool.not_true, Bool.false_or] at h2
      exact .inr (by simpa [List.contains_eq_mem] using h2)
include D
theorem Drawn.noKeys {j : Nat} {b : GI} {t : Rs} (h1 : gis[j]? = some b) (h2 : ts[j]? = some t) (hc : b.i.isCal = false) (hw : b.i.wr = false) : keysT t = [] := by
  have hat := D.atOp h1 h2
  cases t with
  | none => rfl
  | some x =>
    obtain ⟨v, u, m⟩ := x
    have hk := opRes_keys hc hat.2
    obtain ⟨w1, w2⟩ := writes_wr (e := (stAt gis ts s0 j).env) hw
    cases u with
    | nil => rfl
    | cons p u =>
      exfalso
      rcases hk p List.mem_cons_self with k | ⟨k, _⟩
      · rw [w1] at k; simp at k
      · rw [w2] at k; cases k
theorem Drawn.noRead {i j : Nat} {a b : GI} {t : Rs} (h : Uno pairs i j a b) (hi : gis[i]? = some a) (hj : gis[j]? = some b) (ht : ts[j]? = some t) (hca : a.i.isCal = false) : ∀ x ∈ keysT t, x ∉ a.i.reads (stAt gis ts s0 i).env := by
  intro x hx hr
  have hrd : a.i.rd = true := by
    cases hrd : a.i.rd with
    | true => rfl
    | false => rw [reads_rd hrd] at hr; simp at hr
  by_cases hcb : b.i.isCal = true
  · obtain ⟨ti, hti⟩ := D.tsAt hi
    have hat := D.atOp hj ht
    have main : stableAt gis i a = true → stableAt gis j b = true → unspared sn.env b.i a.i = false → False := by
      intro s1 s2 hm
      obtain ⟨q1, q8⟩ := D.stable hi hti s1
      obtain ⟨q2, q9⟩ := D.stable hj ht s2
      rw [← reads_congr q1] at hr
      cases t with
      | none => simp [keysT] at hx
      | some z =>
        obtain ⟨v, u, m⟩ := z
        simp only [keysT, List.mem_map] at hx
        obtain ⟨p, hp, rfl⟩ := hx
        have hat2 := hat.2
        obtain ⟨gb, ib⟩ := b
        cases ib <;> first | (cases hcb; done) | skip
        case cal d f xs nt =>
          have h1 : ∀ t ∈ nt, look sn.env t = look (stAt gis ts s0 j).env t := fun t ht => q2 t (List.mem_flatMap.2 ⟨.t t, by simp only [KI.ops, List.mem_append, List.mem_map]; exact .inr ⟨t, ht, rfl⟩, by simp [optmp]⟩)
          simp only [unspared] at hm
          have hm2 := List.any_eq_false.1 hm _ hr
          simp only [Bool.not_eq_true, Bool.not_eq_false', List.any_eq_true] at hm2
          obtain ⟨y, hy, hk⟩ := hm2
          simp only [opRes] at hat2
          split at hat2
          · split at hat2
            · cases hat2
            · rename_i hcl
              injection hat2 with e1; injection e1 with e1 e2; injection e2 with e2 e3; subst e1 e2 e3
              have := clash_out (by simpa using hcl) hp hy
              rw [← h1 y hy] at this
              exact this (by simpa [List.contains_eq_mem] using hk)
          · cases hat2
        case cad d f xs nt =>
          have h1 : ∀ t ∈ nt, look sn.env t = look (stAt gis ts s0 j).env t := fun t ht => q2 t (List.mem_flatMap.2 ⟨.t t, by simp only [KI.ops, List.mem_append, List.mem_map]; exact .inr ⟨t, ht, rfl⟩, by simp [optmp]⟩)
          simp only [unspared] at hm
          have hm2 := List.any_eq_false.1 hm _ hr
          simp only [Bool.not_eq_true, Bool.not_eq_false', List.any_eq_true] at hm2
          obtain ⟨y, hy, hk⟩ := hm2
          simp only [opRes] at hat2
          split at hat2
          · split at hat2
            · split at hat2
              · cases hat2
              · rename_i hcl
                injection hat2 with e1; injection e1 with e1 e2; injection e2 with e2 e3; subst e1 e2 e3
                have := clash_out (by simpa using hcl) hp hy
                rw [← h1 y hy] at this
                exact this (by simpa [List.contains_eq_mem] using hk)
            · cases hat2
          · cases hat2
        case cav d f xs =>
          simp only [unspared, Bool.not_eq_false', List.isEmpty_iff] at hm
          rw [hm] at hr; cases hr
    obtain ⟨_, _, hpairs⟩ := drawOk.out D.dr D.sz
    rcases (h.symm.mem.1 hcb).1 hrd with hp | hp
    · obtain ⟨b', a', g1, g2, g3, g4⟩ := hpairs j i hp
      rw [hj] at g1; injection g1 with g1; subst g1
      rw [hi] at g2; injection g2 with g2; subst g2
      exact main g4 g3 (meets_false D.ms j i _ _ hp hj hi).2.2.1
    · obtain ⟨a', b', g1, g2, g3, g4⟩ := hpairs i j hp
      rw [hi] at g1; injection g1 with g1; subst g1
      rw [hj] at g2; injection g2 with g2; subst g2
      exact main g3 g4 (meets_false D.ms i j _ _ hp hi hj).2.2.2
  · have hcb : b.i.isCal = false := by simpa using hcb
    have hwr : b.i.wr = true := by
      cases hwr : b.i.wr with
      | true => rfl
      | false => rw [D.noKeys hj ht hcb hwr] at hx; simp at hx
    obtain ⟨ti, hti⟩ := D.tsAt hi
    have hat := D.atOp hj ht
    have main : stableAt gis i a = true → stableAt gis j b = true → (∀ y ∈ b.i.writes sn.env ++ b.i.fresh sn.env, y ∉ a.i.reads sn.env) → False := by
      intro s1 s2 hm
      obtain ⟨q1, _⟩ := D.stable hi hti s1
      obtain ⟨q2, q3⟩ := D.stable hj ht s2
      rw [← reads_congr q1] at hr
      refine hm x ?_ hr
      cases t with
      | none => simp [keysT] at hx
      | some z =>
        obtain ⟨v, u, m⟩ := z
        simp only [keysT, List.mem_map] at hx
        obtain ⟨p, hp, rfl⟩ := hx
        rw [List.mem_append]
        rcases opRes_keys hcb hat.2 p hp with k | ⟨k1, _, _, k4⟩
        · left; rw [writes_congr q2]; exact k
        · right
          obtain ⟨d, hd⟩ := allocs_dst k1
          rw [fresh_allocs k1 hd, q3 d hd]
          exact k4
    obtain ⟨_, _, hpairs⟩ := drawOk.out D.dr D.sz
    rcases h.mem.2 hca hcb hrd hwr with hp | hp
    · obtain ⟨a', b', g1, g2, g3, g4⟩ := hpairs i j hp
      rw [hi] at g1; injection g1 with g1; subst g1
      rw [hj] at g2; injection g2 with g2; subst g2
      exact main g3 g4 (meets_false D.ms i j _ _ hp hi hj).2.1
    · obtain ⟨b', a', g1, g2, g3, g4⟩ := hpairs j i hp
      rw [hj] at g1; injection g1 with g1; subst g1
      rw [hi] at g2; injection g2 with g2; subst g2
      exact main g4 g3 (meets_false D.ms j i _ _ hp hj hi).1
theorem Drawn.noBoth {i j : Nat} {a b : GI} {ti tj : Rs} (h : Uno pairs i j a b) (hi : gis[i]? = some a) (hj : gis[j]? = some b) (hti : ts[i]? = some ti) (htj : ts[j]? = some tj) : ∀ x ∈ keysT ti, x ∉ keysT tj := by
  intro x hx hy
  by_cases hca : a.i.isCal = true
  · obtain ⟨_, k2, k3⟩ := h.mem.1 hca
    rw [D.noKeys hj htj k3 k2] at hy; simp at hy
  · have hca : a.i.isCal = false := by simpa using hca
    by_cases hcb : b.i.isCal = true
    · obtain ⟨_, k2, _⟩ := h.symm.mem.1 hcb
      rw [D.noKeys hi hti hca k2] at hx; simp at hx
    · have hcb : b.i.isCal = false := by simpa using hcb
      have hai := D.atOp hi hti
      have haj := D.atOp hj htj
      cases ti with
      | none => simp [keysT] at hx
      | some z =>
        obtain ⟨v, u, m⟩ := z
        have hx' := hx
        simp only [keysT, List.mem_map] at hx'
        obtain ⟨p, hp, rfl⟩ := hx'
        cases tj with
        | none => simp [keysT] at hy
        | some z' =>
          obtain ⟨v', u', m'⟩ := z'
          have hy' := hy
          simp only [keysT, List.mem_map] at hy'
          obtain ⟨p', hp', e⟩ := hy'
          rcases opRes_keys hca hai.2 p hp with k | ⟨_, k2, k3, _⟩
          · exact D.noRead h hi hj htj hca _ hy (writes_reads _ k)
          · rcases opRes_keys hcb haj.2 p' hp' with k' | ⟨_, k2', k3', _⟩
            · rw [e] at k'
              exact D.noRead h.symm hj hi hti hcb _ hx (writes_reads _ k')
            · have n1 := (D.next hi hti).1
              have n2 := (D.next hj htj).1
              simp only at n1 n2
              have li := (List.getElem?_eq_some_iff.1 hi).1
              have lj := (List.getElem?_eq_some_iff.1 hj).1
              rcases h with ⟨hlt, _⟩ | ⟨hlt, _⟩
              · have := D.nextMono (i := i + 1) (j := j) (by omega) (by omega)
                omega
              · have := D.nextMono (i := j + 1) (j := i) (by omega) (by omega)
                omega
end
end Go.Fw
namespace Go.Fw
open Go Go.RowKit
variable {P : Program} {FT : Nat → FTy}

def cnt (A : Nat → Bool) : Nat → Nat
  | 0 => 0
  | n + 1 => cnt A n + (if A n then 0 else 1)
theorem cnt_zero {A : Nat → Bool} : ∀ {n : Nat}, cnt A n = 0 → ∀ j, j < n → A j = true
  | 0, _, j, hj => by omega
  | n + 1, h, j, hj => by
    simp only [cnt] at h
    by_cases hn : A n = true
    · rw [if_pos hn] at h
      by_cases e : j = n
      · subst e; exact hn
      · exact cnt_zero (n := n) (by omega) j (by omega)
    · rw [if_neg hn] at h; omega
theorem cnt_congr {A B : Nat → Bool} : ∀ {n : Nat}, (∀ j, j < n → B j = A j) → cnt B n = cnt A n
  | 0, _ => rfl
  | n + 1, h => by simp only [cnt]; rw [cnt_congr (fun j hj => h j (by omega)), h n (by omega)]
theorem cnt_upd {A B : Nat → Bool} {i : Nat} (hA : A i = false) (hB : B i = true) (h : ∀ j, j ≠ i → B j = A j) : ∀ {n : Nat}, i < n → cnt B n + 1 = cnt A n
  | 0, hi => by omega
  | n + 1, hi => by
    simp only [cnt]
    by_cases e : i = n
    · subst e
      rw [hA, hB, cnt_congr (fun j hj => h j (by omega))]
      simp
    · rw [h n (by omega), ← cnt_upd hA hB h (n := n) (by omega)]
      omega
theorem opRes_same {rec : Task → Option Ans} {i : KI} {e : Env} {g : Nat → Option Blk} {n : Nat} {v : V} {u : Hp} {n' : Nat} (hc : i.isCal = false) (hw : i.wr = false) (h : opRes rec i e g n = some (v, u, n')) : n' = n := by
  have main : ∀ {i : KI}, i.wr = false → eff i e g n = some (v, u, n') → n' = n := fun hw h => by
    rcases eff_next h with k | ⟨_, k⟩
    · exact k
    · rw [allocs_wr k] at hw; cases hw
  cases i <;> simp only [opRes] at h <;> first | exact main hw h | (cases hc; done) | (cases hw; done)

section
variable {rec : Task → Option Ans} {ops : Array Oper} {gis : List GI} {pairs : List (Nat × Nat)} {s0 sn : St} {ts : List Rs}
def Uset (gis : List GI) (ts : List Rs) (s0 : St) (A : Nat → Bool) (h : Nat) : Prop := h < s0.next ∨ ∃ j v u m, A j = true ∧ ts[j]? = some (some (v, u, m)) ∧ (stAt gis ts s0 j).next ≤ h ∧ h < m
def atSet (gis : List GI) (ts : List Rs) (s0 : St) (n : Nat) (A : Nat → Bool) : St := { foldA A 0 gis ts s0 with next := n }
def listedA (l : Array Bool) (j : Nat) : Bool := l.getD j false

theorem Drawn.wp (D : Drawn rec ops gis pairs s0 sn ts) {F : FTy} {E : Fr} (hcs : CallSnd P FT rec) (hds : DataSnd P FT rec) (hft : E.ft = ftOf FT) (hall : allOk P FT F ops gis = true) {Q : Exit → Act → World → Prop}
    (hQ : ∀ a w, RelN P E F.n (tysOf F) (fun h => h < sn.next) sn a w → Q .normal a w) (hnd : nodup (s0.hp.map (·.1)) = true) (hbase : s0.base ≤ s0.next) :
    ∀ (fuel : Nat) (listed : Array Bool) (a : Act) (w : World), listed.size = ops.size → cnt (listedA listed) ops.size ≤ fuel → Closed ops (listedA listed) →
      RelN P E F.n (tysOf F) (Uset gis ts s0 (listedA listed)) (atSet gis ts s0 sn.next (listedA listed)) a w → wpAny P .any ops Q fuel listed a w := by
  obtain ⟨hsz, hget⟩ := allOk.get hall
  obtain ⟨hback, hord, _⟩ := drawOk.out D.dr D.sz
  have hn0 : stAt gis ts s0 0 = s0 := foldA_none (fun j _ => by simp [before])
  have hsn : s0.next ≤ sn.next := by
    have := D.nextMono (i := 0) (j := gis.length) (Nat.zero_le _) (Nat.le_refl _)
    rw [hn0, D.last] at this; exact this
  have hmj : ∀ j v u m, ts[j]? = some (some (v, u, m)) → ∃ b, gis[j]? = some b ∧ (stAt gis ts s0 (j + 1)).next = m ∧ j < gis.length := by
    intro j v u m ht
    have hlt : j < gis.length := by rw [← D.len]; exact (List.getElem?_eq_some_iff.1 ht).1
    exact ⟨_, List.getElem?_eq_getElem hlt, (D.next (List.getElem?_eq_getElem hlt) ht).1, hlt⟩
  -- all are done
  have hend : ∀ (A : Nat → Bool) (a : Act) (w : World), (∀ j, j < ops.size → A j = true) → RelN P E F.n (tysOf F) (Uset gis ts s0 A) (atSet gis ts s0 sn.next A) a w → Q .normal a w := by
    intro A a w hA hr
    have e : atSet gis ts s0 sn.next A = sn := by
      have := D.tr.fold.2 0 A (fun j _ h => hA j (by rw [hsz]; omega))
      simp only [atSet, this]
    rw [e] at hr
    obtain ⟨⟨ρ, own, hb⟩, h2, h3⟩ := hr
    refine hQ a w ⟨⟨ρ, own, hb.like (Like.refl _) hb.nd hb.base (fun h hU => ?_)⟩, h2, h3⟩
    rcases hU with hU | ⟨j, v, u, m, _, ht, _, hlt⟩
    · omega
    · obtain ⟨b, _, k2, k3⟩ := hmj j v u m ht
      have := D.nextMono (i := j + 1) (j := gis.length) (by omega) (Nat.le_refl _)
      rw [D.last] at this
      omega
  have hdone : ∀ (listed : Array Bool), listed.size = ops.size → Region.ready .any ops listed = [] → ∀ j, j < ops.size → listedA listed j = true := by
    intro listed hls hr j
    induction j using Nat.strongRecOn with
    | _ j ih =>
      intro hj
      have hnot : ¬ j ∈ Region.ready .any ops listed := by rw [hr]; simp
      rw [mem_ready] at hnot
      have ho : ops[j]? = some ops[j] := by simp [hj]
      have hdeps : ∀ e ∈ ops[j].after, Region.binds .any e = true → listed.getD e.on false = true := by
        intro e he hbi
        have hmem : e.on ∈ edgesOf ops[j] := by
          simp only [edgesOf, List.mem_filterMap]
          exact ⟨e, by simpa using he, by rw [if_pos hbi]⟩
        have hlt := hback j _ ho e.on hmem
        exact ih e.on hlt (by omega)
      cases hl : listed.getD j true with
      | false => exact absurd ⟨hl, _, ho, hdeps⟩ hnot
      | true =>
        unfold listedA
        rw [Array.getD_eq_getD_getElem?] at hl ⊢
        have hjs : j < listed.size := by omega
        simp only [hjs, Array.getElem?_eq_getElem, Option.getD_some] at hl ⊢
        exact hl
  intro fuel
  induction fuel with
  | zero =>
    intro listed a w hls hcnt hcl hr
    have hA := cnt_zero (Nat.le_zero.1 hcnt)
    refine ⟨?_, hend _ a w hA hr⟩
    cases hrd : Region.ready .any ops listed with
    | nil => rfl
    | cons i l =>
      exfalso
      have hi : i ∈ Region.ready .any ops listed := by rw [hrd]; exact List.mem_cons_self
      rw [mem_ready] at hi
      obtain ⟨h1, o, ho, _⟩ := hi
      have hio := (Array.getElem?_eq_some_iff.1 ho).1
      have := hA i hio
      unfold listedA at this
      rw [Array.getD_eq_getD_getElem?] at h1 this
      have hjs : i < listed.size := by omega
      simp only [hjs, Array.getElem?_eq_getElem, Option.getD_some] at h1 this
      rw [h1] at this; cases this
  | succ fuel ih =>
    intro listed a w hls hcnt hcl hr
    refine ⟨fun hrd => hend _ a w (hdone listed hls hrd) hr, fun i hi => ?_⟩
    rw [mem_ready] at hi
    obtain ⟨h1, o, ho, hdeps⟩ := hi
    have hio := (Array.getElem?_eq_some_iff.1 ho).1
    have hil : i < gis.length := by omega
    have hgi := List.getElem?_eq_getElem hil
    generalize gis[i] = gi at hgi
    obtain ⟨t, ht⟩ := D.tsAt hgi
    have hat := D.atOp hgi ht
    obtain ⟨g1, g2, g3, g4⟩ := oneOk.out (hget i o gi ho hgi)
    let A := listedA listed
    let B := listedA (listed.setIfInBounds i true)
    have hAi : A i = false := by
      show listedA listed i = false
      unfold listedA
      rw [Array.getD_eq_getD_getElem?] at h1 ⊢
      have hjs : i < listed.size := by omega
      simp only [hjs, Array.getElem?_eq_getElem, Option.getD_some] at h1 ⊢
      exact h1
    have hBi : B i = true := by
      show listedA _ i = true
      unfold listedA
      have hjs : i < listed.size := by omega
      simp [Array.getD_eq_getD_getElem?, hjs]
    have hBA : ∀ j, j ≠ i → B j = A j := by
      intro j hj
      show listedA _ j = listedA _ j
      unfold listedA
      simp [Array.getD_eq_getD_getElem?, Ne.symm hj]
    have hAB : ∀ j, A j = true → B j = true := by
      intro j hj
      by_cases e : j = i
      · subst e; exact hBi
      · rw [hBA j e]; exact hj
    have hclB : Closed ops B := by
      intro j oj hoj hBj k hk
      by_cases e : j = i
      · subst e
        rw [ho] at hoj; injection hoj with hoj; subst hoj
        simp only [edgesOf, List.mem_filterMap] at hk
        obtain ⟨ed, he, hbi⟩ := hk
        split at hbi
        · rename_i hbind
          injection hbi with hbi; subst hbi
          exact hAB _ (hdeps ed (by simpa using he) hbind)
        · cases hbi
      · rw [hBA j e] at hBj
        exact hAB _ (hcl j oj hoj hBj k hk)
    have huno : ∀ j b, gis[j]? = some b → j ≠ i → A j ≠ before 0 i j → Uno pairs i j gi b := by
      intro j b hb hne hdiff
      rcases Nat.lt_or_gt_of_ne hne with hlt | hgt
      · have hbt : before 0 i j = true := by simp [before, hlt]
        have hAj : A j = false := by
          cases hA : A j with
          | false => rfl
          | true => rw [hA, hbt] at hdiff; exact absurd rfl hdiff
        rcases hord j i b gi hlt hb hgi with k | k
        · have := k B hclB hBi
          rw [hBA j hne, hAj] at this; cases this
        · exact .inr ⟨hlt, k⟩
      · have hbf : before 0 i j = false := by simp [before]; omega
        have hAj : A j = true := by
          cases hA : A j with
          | true => rfl
          | false => rw [hA, hbf] at hdiff; exact absurd rfl hdiff
        rcases hord i j gi b hgt hgi hb with k | k
        · have := k A hcl hAj
          rw [hAi] at this; cases this
        · exact .inl ⟨hgt, k⟩
    have hbi : A i = before 0 i i := by rw [hAi]; simp [before]
    have hlk : ∀ x ∈ looksK gi, look (foldA A 0 gis ts s0).env x = look (stAt gis ts s0 i).env x := by
      intro x hx
      refine foldA_look (fun j gj hj hdj => ?_) rfl
      rw [Nat.zero_add]
      by_cases e : j = i
      · subst e; exact hbi
      · refine Classical.byContradiction fun hne => ?_
        exact (huno j gj hj e hne).apart.1 x hdj hx
    have hwant : wanted (foldA A 0 gis ts s0).env gi.g = wanted (stAt gis ts s0 i).env gi.g := by
      refine wanted_congr (fun t b he => hlk t ?_)
      simp only [looksK, he, List.mem_append]
      exact .inl (by simp)
    have hlike : Like (foldA B 0 gis ts s0) (app1 gi t (foldA A 0 gis ts s0)) := by
      refine foldA_add hgi ht (by simpa using hAi) (by simpa using hBi) (fun j _ hj => hBA j (by omega)) (fun j gj tj hij hgj htj hAj => ?_)
      rw [Nat.zero_add] at hAj
      have hun := huno j gj hgj (by omega) (by rw [hAj]; simp [before]; omega)
      exact ⟨hun.apart.2, D.noBoth hun hgi hgj ht htj⟩
    have hcntB : cnt B ops.size ≤ fuel := by
      have := cnt_upd hAi hBi hBA hio
      have hc : cnt A ops.size ≤ fuel + 1 := hcnt
      omega
    have hbB : (atSet gis ts s0 sn.next B).base ≤ (atSet gis ts s0 sn.next B).next := by
      show (foldA B 0 gis ts s0).base ≤ sn.next
      rw [foldA_base.1]; omega
    have hndB : nodup ((atSet gis ts s0 sn.next B).hp.map (·.1)) = true := foldA_base.2.2 hnd
    have hUAB : ∀ h, Uset gis ts s0 A h → Uset gis ts s0 B h := by
      intro h hU
      rcases hU with hU | ⟨j, v, u, m, k1, k2, k3, k4⟩
      · exact .inl hU
      · exact .inr ⟨j, v, u, m, hAB j k1, k2, k3, k4⟩
    unfold wpOp
    rw [ho]
    simp only
    cases t with
    | none =>
      have hw : wanted (atSet gis ts s0 sn.next A).env gi.g = some false := by
        show wanted (foldA A 0 gis ts s0).env gi.g = some false
        rw [hwant]; exact hat
      have hwf : Region.wanted o (yielded ops a.tmps) = false := by
        obtain ⟨ρ, own, hb⟩ := hr.1
        exact wanted_ok (P := P) (gi := gi) g1 hb.env hw
      rw [if_neg (by rw [hwf]; simp)]
      refine ih _ _ _ (by simpa using hls) hcntB hclB ?_
      rw [g2]
      have hsk := hr.skip g3
      obtain ⟨⟨ρ, own, hb⟩, k2, k3⟩ := hsk
      refine ⟨⟨ρ, own, hb.like ?_ hndB hbB hUAB⟩, k2, k3⟩
      exact ⟨fun x => (hlike.env x).symm, fun x => (hlike.hp x).symm, hlike.tl.symm, hlike.base.symm⟩
    | some z =>
      obtain ⟨v, u, m⟩ := z
      obtain ⟨hat1, hat2⟩ := hat
      have hw : wanted (atSet gis ts s0 sn.next A).env gi.g = some true := by
        show wanted (foldA A 0 gis ts s0).env gi.g = some true
        rw [hwant]; exact hat1
      have hwt : Region.wanted o (yielded ops a.tmps) = true := by
        obtain ⟨ρ, own, hb⟩ := hr.1
        exact wanted_ok (P := P) (gi := gi) g1 hb.env hw
      rw [if_pos hwt]
      left
      have hnx := (D.next hgi ht).1
      simp only at hnx
      have hnx0 : s0.next ≤ (stAt gis ts s0 i).next := by
        have := D.nextMono (i := 0) (j := i) (Nat.zero_le _) (by omega)
        rw [hn0] at this; exact this
      let S : St := { foldA A 0 gis ts s0 with next := (stAt gis ts s0 i).next }
      have htm : ∀ x ∈ gi.i.tmps, look S.env x = look (stAt gis ts s0 i).env x := fun x hx => hlk x (by simp only [looksK, List.mem_append]; exact .inr hx)
      have htl : S.tl = (stAt gis ts s0 i).tl := by
        show (foldA A 0 gis ts s0).tl = (foldA (before 0 i) 0 gis ts s0).tl
        rw [foldA_base.2.1, foldA_base.2.1]
      have hgeq : ∀ x, (∀ j b tj, gis[j]? = some b → ts[j]? = some tj → x ∈ keysT tj → ¬ Uno pairs i j gi b) → S.g x = (stAt gis ts s0 i).g x := by
        intro x hx
        have : hlook S.hp x = hlook (stAt gis ts s0 i).hp x := by
          refine foldA_hlook (fun j tj hj hxj => ?_) rfl
          rw [Nat.zero_add]
          by_cases e : j = i
          · subst e; exact hbi
          · refine Classical.byContradiction fun hne => ?_
            have hjl : j < gis.length := by rw [← D.len]; exact (List.getElem?_eq_some_iff.1 hj).1
            exact hx j _ tj (List.getElem?_eq_getElem hjl) hj hxj (huno j _ (List.getElem?_eq_getElem hjl) e hne)
        simp only [St.g, this, htl]
      have hnocal : gi.i.isCal = true → ∀ j b tj, gis[j]? = some b → ts[j]? = some tj → Uno pairs i j gi b → keysT tj = [] := by
        intro hc j b tj hb htj hun
        obtain ⟨_, k2, k3⟩ := hun.mem.1 hc
        exact D.noKeys hb htj k3 k2
      have hres : opRes rec gi.i S.env S.g S.next = some (v, u, m) := by
        rw [← hat2]
        refine opRes_congr htm (fun x hx => hgeq x (fun j b tj hb htj hxk hun => ?_)) (fun hc => ?_)
        · rw [reads_congr htm] at hx
          by_cases hc : gi.i.isCal = true
          · rw [hnocal hc j b tj hb htj hun] at hxk; simp at hxk
          · exact D.noRead hun hgi hb htj (by simpa using hc) x hxk hx
        · funext x
          exact hgeq x (fun j b tj hb htj hxk hun => by rw [hnocal hc j b tj hb htj hun] at hxk; simp at hxk)
      have hrS : RelN P E F.n (tysOf F) (Uset gis ts s0 A) S a w := by
        obtain ⟨⟨ρ, own, hb⟩, k2, k3⟩ := hr
        refine ⟨⟨ρ, own, hb.like (s' := S) ⟨fun _ => rfl, fun _ => rfl, rfl, rfl⟩ hb.nd ?_ (fun _ h => h)⟩, k2, k3⟩
        show (foldA A 0 gis ts s0).base ≤ (stAt gis ts s0 i).next
        rw [foldA_base.1]; omega
      have hfresh : ∀ h, S.next ≤ h → h < m → ¬ Uset gis ts s0 A h := by
        intro h k1 k2 hU
        have k1 : (stAt gis ts s0 i).next ≤ h := k1
        rcases hU with hU | ⟨j, v', u', m', q1, q2, q3, q4⟩
        · omega
        · obtain ⟨b, _, r2, r3⟩ := hmj j v' u' m' q2
          rcases Nat.lt_trichotomy j i with hlt | heq | hgt
          · have := D.nextMono (i := j + 1) (j := i) (by omega) (by omega)
            omega
          · subst heq; rw [hAi] at q1; cases q1
          · have := D.nextMono (i := i + 1) (j := j) (by omega) (by omega)
            omega
      have hUcal : gi.i.isCal = true → Uset gis ts s0 A = fun h => h < S.next := by
        intro hc
        have hempty : ∀ j v' u' m', ts[j]? = some (some (v', u', m')) → j ≠ i → A j ≠ before 0 i j → m' = (stAt gis ts s0 j).next := by
          intro j v' u' m' htj hne hdiff
          obtain ⟨b, hb, _, _⟩ := hmj j v' u' m' htj
          obtain ⟨_, k2, k3⟩ := (huno j b hb hne hdiff).mem.1 hc
          exact opRes_same k3 k2 (D.atOp hb htj).2
        funext h
        apply propext
        show Uset gis ts s0 A h ↔ h < (stAt gis ts s0 i).next
        constructor
        · rintro (hU | ⟨j, v', u', m', q1, q2, q3, q4⟩)
          · omega
          · obtain ⟨b, _, r2, r3⟩ := hmj j v' u' m' q2
            rcases Nat.lt_trichotomy j i with hlt | heq | hgt
            · have := D.nextMono (i := j + 1) (j := i) (by omega) (by omega)
              omega
            · subst heq; rw [hAi] at q1; cases q1
            · have := hempty j v' u' m' q2 (by omega) (by rw [q1]; simp [before]; omega)
              omega
        · intro hlt
          have key : ∀ i', i' ≤ i → h < (stAt gis ts s0 i').next → h < s0.next ∨ ∃ j v' u' m', j < i' ∧ ts[j]? = some (some (v', u', m')) ∧ (stAt gis ts s0 j).next ≤ h ∧ h < m' := by
            intro i'
            induction i' with
            | zero => intro _ hh; rw [hn0] at hh; exact .inl hh
            | succ i' ih' =>
              intro hle hh
              by_cases hlt' : h < (stAt gis ts s0 i').next
              · rcases ih' (by omega) hlt' with k | ⟨j, v', u', m', k1, k2, k3, k4⟩
                · exact .inl k
                · exact .inr ⟨j, v', u', m', by omega, k2, k3, k4⟩
              · have hil' : i' < gis.length := by omega
                obtain ⟨t', ht'⟩ := D.tsAt (List.getElem?_eq_getElem hil')
                have hnx' := (D.next (List.getElem?_eq_getElem hil') ht').1
                cases t' with
                | none => simp only at hnx'; omega
                | some z' =>
                  obtain ⟨v', u', m'⟩ := z'
                  simp only at hnx'
                  exact .inr ⟨i', v', u', m', by omega, ht', by omega, by omega⟩
          rcases key i (Nat.le_refl _) hlt with k | ⟨j, v', u', m', k1, k2, k3, k4⟩
          · exact .inl k
          · refine .inr ⟨j, v', u', m', ?_, k2, k3, k4⟩
            cases hAj : A j with
            | true => rfl
            | false =>
              exfalso
              have := hempty j v' u' m' k2 (by omega) (by rw [hAj]; simp [before, k1])
              omega
      refine op_wp hcs hds hft g4 g2 g3 hrS hfresh hUcal hres (fun a' w' hr' => ?_)
      refine ih _ _ _ (by simpa using hls) hcntB hclB ?_
      obtain ⟨⟨ρ, own, hb⟩, k2, k3⟩ := hr'
      refine ⟨⟨ρ, own, hb.like ?_ hndB hbB (fun h hU => ?_)⟩, k2, k3⟩
      · have e1 : Like (app1 gi (some (v, u, m)) S) (app1 gi (some (v, u, m)) (foldA A 0 gis ts s0)) := app1_like ⟨fun _ => rfl, fun _ => rfl, rfl, rfl⟩
        have e2 := e1.trans hlike.symm
        exact ⟨e2.env, e2.hp, e2.tl, e2.base⟩
      · rcases hU with hU | ⟨q1, q2⟩
        · exact hUAB h hU
        · exact .inr ⟨i, v, u, m, hBi, ht, q1, q2⟩
end
end Go.Fw
namespace Go.Fw
open Go Go.RowKit
variable {P : Program} {FT : Nat → FTy} {kp : Nat → Option KF}

variable (P FT) in
def regOk (F : FTy) (ops : Array Oper) (draw : Bool) (pairs : List (Nat × Nat)) (gis : List GI) : Bool :=
  allOk P FT F ops gis && (if draw then drawOk ops gis pairs && P.follows .mixedOrders else true)
variable (P FT) in
def chk (F : FTy) : Code → K → Bool
  | .skip, .skip => true
  | .label _, .skip => true
  | .ret, .ret => true
  | .exit n, .ext m => decide (n = m)
  | .seq a b, .seq x y => chk F a x && chk F b y
  | .cond c a b, .cond z x y => opdOk (ftOf FT) (tysOf F) (.o .b) c z && chk F a x && chk F b y
  | .block n a, .blk m x => decide (n = m) && chk F a x
  | .loop a, .loop _ x => chk F a x
  | .region _ ops draw, .reg pairs gis _ => regOk P FT F ops draw pairs gis
  | _, _ => false

theorem opRes_mono {rec rec' : Task → Option Ans} (h : ∀ t a, rec t = some a → rec' t = some a) {i : KI} {e : Env} {g : Nat → Option Blk} {n : Nat} {r : V × Hp × Nat} (hr : opRes rec i e g n = some r) : opRes rec' i e g n = some r := by
  cases i <;> simp only [opRes] at hr ⊢ <;> first | exact hr | skip
  case cal d f xs nt =>
    split at hr
    · rename_i h1; rw [h _ _ h1]; exact hr
    · cases hr
  case dat d f xs =>
    split at hr
    · split at hr
      · rename_i h1; rw [h _ _ h1]; exact hr
      · cases hr
    · cases hr
  case daf d f xs =>
    split at hr
    · split at hr
      · rename_i h1; rw [h _ _ h1]; exact hr
      · cases hr
    · cases hr
  case das d f xs =>
    split at hr
    · split at hr
      · rename_i h1; rw [h _ _ h1]; exact hr
      · cases hr
    · cases hr
  case cad d f xs nt =>
    split at hr
    · rename_i h1; rw [h _ _ h1]; exact hr
    · cases hr
  case cav d f xs =>
    split at hr
    · split at hr
      · rename_i h1; rw [h _ _ h1]; exact hr
      · cases hr
    · cases hr
theorem tr_of_run {n : Nat} : ∀ {m : Nat} {l : List GI} {s : St} {a : Ans}, m ≤ n → runF kp m (.ops l s) = some a → ∃ ts s', a = .st s' ∧ Tr (runF kp n) l s ts s'
  | 0, _, _, _, _, h => by simp [runF] at h
  | m + 1, [], s, a, _, h => by
    simp only [runF, step] at h
    injection h with h
    exact ⟨[], s, h.symm, .nil⟩
  | m + 1, ⟨g, i⟩ :: r, s, a, hm, h => by
    have hmono : ∀ t a, runF kp m t = some a → runF kp n t = some a := fun t a ht => runF_le (by omega) t a ht
    simp only [runF] at h
    rw [step_ops] at h
    split at h
    · cases h
    · rename_i hw
      obtain ⟨ts, s', h1, h2⟩ := tr_of_run (Nat.le_of_succ_le hm) h
      exact ⟨none :: ts, s', h1, .skip hw h2⟩
    · rename_i hw
      split at h
      · rename_i v u k hres
        obtain ⟨ts, s', h1, h2⟩ := tr_of_run (Nat.le_of_succ_le hm) h
        exact ⟨some (v, u, k) :: ts, s', h1, .go hw (opRes_mono hmono hres) h2⟩
      · cases h

def exitOf : Out → Exit
  | .nrm => .normal
  | .ret => .ret
  | .ext n => .exit n
theorem look_forget {e : Env} {kill : List Nat} (i : Nat) : look (forget e kill) i = .und ∨ look (forget e kill) i = look e i := by
  induction e with
  | nil => exact .inl rfl
  | cons x e ih =>
    obtain ⟨j, v⟩ := x
    simp only [forget, List.filter_cons]
    split
    · simp only [look]
      split
      · exact .inr rfl
      · exact ih
    · rename_i hk
      simp only [look]
      by_cases hji : j = i
      · -- it is forgotten
        subst hji
        left
        clear ih
        have hk' : kill.contains j = true := by simpa using hk
        induction e with
        | nil => rfl
        | cons y e ih =>
          obtain ⟨j', v'⟩ := y
          simp only [List.filter_cons]
          split
          · rename_i hk2
            simp only [look]
            rw [if_neg]
            · exact ih
            · intro e'; subst e'; simp at hk2; simp [List.contains_eq_mem, hk2] at hk'
          · exact ih
      · rw [if_neg hji]; exact ih

section
variable {E : Fr} {F : FTy} {s : St} {a : Act} {w : World}
theorem RelN.forget {N : Nat} {tys : Nat → TTy} {U : Nat → Prop} (hr : RelN P E N tys U s a w) (kill : List Nat) : RelN P E N tys U { s with env := forget s.env kill } a w := by
  obtain ⟨⟨ρ, own, hb⟩, h2, h3⟩ := hr
  refine ⟨⟨ρ, own, ?_⟩, h2, h3⟩
  exact { heap := hb.heap, env := fun i => by
            rcases look_forget (e := s.env) (kill := kill) i with k | k
            · show VT P _ _ (look (Fw.forget s.env kill) i) _
              rw [k]; exact .inl rfl
            · show VT P _ _ (look (Fw.forget s.env kill) i) _
              rw [k]; exact hb.env i
          tail := hb.tail, le := hb.le, nd := hb.nd, start := hb.start, dom := hb.dom, base := hb.base, below := hb.below, bsize := hb.bsize }
theorem RelN.drew {N : Nat} {tys : Nat → TTy} {U : Nat → Prop} (hr : RelN P E N tys U s a w) : RelN P E N tys U s a { w with drawn := w.drawn + 1 } := by
  obtain ⟨⟨ρ, own, hb⟩, h2, h3⟩ := hr
  refine ⟨⟨ρ, own, ?_⟩, h2, h3⟩
  exact { heap := hb.heap, env := hb.env, tail := hb.tail, le := hb.le, nd := hb.nd, start := hb.start, dom := hb.dom, base := hb.base,
          below := ⟨hb.below.os, hb.below.tape, hb.below.output, hb.below.size, hb.below.block⟩, bsize := hb.bsize }

theorem reg_wp {n m : Nat} {id : Nat} {ops : Array Oper} {draw : Bool} {pairs : List (Nat × Nat)} {gis : List GI} {s' : St} (hmn : m ≤ n) (hcs : CallSnd P FT (runF kp n)) (hds : DataSnd P FT (runF kp n)) (hcal : ∀ f vs g k v u k', runF kp n (.call f vs g k) = some (.val v u k') → k ≤ k') (hft : E.ft = ftOf FT)
    (hok : regOk P FT F ops draw pairs gis = true) (hrun : runF kp m (.ops gis s) = some (.st s')) (hms : meets s'.env gis pairs = false) (hr : RelN P E F.n (tysOf F) (fun h => h < s.next) s a w) {Q : Exit → Act → World → Prop}
    (hQ : ∀ a w, RelN P E F.n (tysOf F) (fun h => h < s'.next) s' a w → Q .normal a w) : (Code.region id ops draw).wp P Q a w := by
  simp only [regOk, Bool.and_eq_true] at hok
  obtain ⟨hall, hdr⟩ := hok
  obtain ⟨hsz, _⟩ := allOk.get hall
  obtain ⟨ts, s'', h1, htr⟩ := tr_of_run hmn hrun
  injection h1 with h1; subst h1
  cases draw with
  | false =>
    refine wp_region ?_
    have := seq_wp hcs hds hcal hft hall (Q := Q) htr 0 a w (by simp) hr hQ
    rw [← hsz] at this
    rw [List.range_eq_range']
    exact this
  | true =>
    simp only [if_true, Bool.and_eq_true] at hdr
    have D : Drawn (runF kp n) ops gis pairs s s' ts := ⟨hsz, hdr.1, htr, hms, hcal⟩
    have hb0 := hr.1
    obtain ⟨ρ, own, hb⟩ := hb0
    have hA : ∀ j, listedA (Array.replicate ops.size false) j = false := by
      intro j
      simp only [listedA, Array.getD_eq_getD_getElem?, Array.getElem?_replicate]
      split <;> rfl
    refine wp_region_any hdr.2 (D.wp hcs hds hft hall hQ hb.nd hb.base ops.size _ a _ (by simp) ?_ ?_ ?_)
    · have : ∀ k, cnt (listedA (Array.replicate ops.size false)) k ≤ k := by
        intro k
        induction k with
        | zero => exact Nat.le_refl _
        | succ k ih => simp only [cnt]; split <;> omega
      exact this _
    · intro j o _ hj
      rw [hA] at hj; cases hj
    · have e : foldA (listedA (Array.replicate ops.size false)) 0 gis ts s = s := foldA_none (fun j _ => hA j)
      obtain ⟨⟨ρ, own, hb⟩, h2, h3⟩ := hr.drew
      have hsn : s.next ≤ s'.next := by
        have := D.nextMono (i := 0) (j := gis.length) (Nat.zero_le _) (Nat.le_refl _)
        rw [D.last] at this
        have h0 : stAt gis ts s 0 = s := foldA_none (fun j _ => by simp [before])
        rw [h0] at this; exact this
      refine ⟨⟨ρ, own, hb.like (s' := atSet gis ts s s'.next (listedA (Array.replicate ops.size false))) ?_ ?_ ?_ (fun h hU => .inl hU)⟩, h2, h3⟩
      · simp only [atSet, e]; exact ⟨fun _ => rfl, fun _ => rfl, rfl, rfl⟩
      · simp only [atSet, e]; exact hb.nd
      · simp only [atSet, e]; have := hb.base; omega
end
end Go.Fw
namespace Go.Fw
open Go Go.RowKit
variable {P : Program} {FT : Nat → FTy} {kp : Nat → Option KF}

theorem least {p : Nat → Prop} (h : ∃ n, p n) : ∃ n, p n ∧ ∀ k, k < n → ¬ p k := by
  obtain ⟨n, hn⟩ := h
  induction n using Nat.strongRecOn with
  | _ n ih =>
    by_cases hk : ∃ k, k < n ∧ p k
    · obtain ⟨k, h1, h2⟩ := hk
      exact ih k h1 h2
    · exact ⟨n, hn, fun k h1 h2 => hk ⟨k, h1, h2⟩⟩
open Classical in
noncomputable def leastOf (p : Nat → Prop) : Nat := if h : ∃ n, p n then (least h).choose else 0
theorem leastOf_spec {p : Nat → Prop} {n : Nat} (h : p n) : p (leastOf p) := by
  unfold leastOf
  rw [dif_pos ⟨n, h⟩]
  exact (least ⟨n, h⟩).choose_spec.1
theorem leastOf_le {p : Nat → Prop} {n : Nat} (h : p n) : leastOf p ≤ n := by
  unfold leastOf
  rw [dif_pos ⟨n, h⟩]
  have := (least ⟨n, h⟩).choose_spec.2 n
  exact Nat.not_lt.1 (fun hlt => this hlt h)
theorem look_kept {e : Env} : ∀ (l : List Nat) (i : Nat), look (kept e l) i = .und ∨ look (kept e l) i = look e i
  | [], i => .inl rfl
  | j :: l, i => by
    simp only [kept, look]
    split
    · rename_i h; subst h; exact .inr rfl
    · exact look_kept l i
section
variable {E : Fr} {F : FTy}
/-- What code comes to. -/
def outQ (P : Program) (E : Fr) (F : FTy) (o : Out) (s : St) : Exit → Act → World → Prop := fun e a w => e = exitOf o ∧ RelN P E F.n (tysOf F) (fun h => h < s.next) s a w
theorem RelN.canon {s s' : St} {a : Act} {w : World} {keep : List Nat} {U : Nat → Prop} (hr : RelN P E F.n (tysOf F) U s a w) (hc : Fw.canon (kept s.env keep) s = some s') : RelN P E F.n (tysOf F) (fun h => h < s'.next) s' a w := by
  obtain ⟨⟨ρ, own, hb⟩, h2, h3⟩ := hr
  obtain ⟨⟨ρ', hb'⟩, _, _⟩ := hb.canon (tys' := tysOf F) (a' := a) (fun i => by
    rcases look_kept (e := s.env) keep i with k | k
    · rw [k]; exact .inl rfl
    · rw [k]; exact hb.env i) hc
  exact ⟨⟨ρ', own, hb'⟩, h2, h3⟩

theorem code_wp {n : Nat} (hcs : CallSnd P FT (runF kp n)) (hds : DataSnd P FT (runF kp n)) (hcal : ∀ f vs g k v u k', runF kp n (.call f vs g k) = some (.val v u k') → k ≤ k') (hft : E.ft = ftOf FT) :
    ∀ (m : Nat), m ≤ n + 1 → (∀ (c : Code) (k : K) (s : St) (o : Out) (s' : St) (a : Act) (w : World), runF kp m (.code k s) = some (.out o s') → chk P FT F c k = true → RelN P E F.n (tysOf F) (fun h => h < s.next) s a w → c.wp P (outQ P E F o s') a w) ∧
      (∀ (c : Code) (keep : List Nat) (k : K) (s : St) (o : Out) (s' : St) (a : Act) (w : World), runF kp m (.loop keep k s) = some (.out o s') → chk P FT F c k = true → RelN P E F.n (tysOf F) (fun h => h < s.next) s a w → (Code.loop c).wp P (outQ P E F o s') a w) := by
  intro m
  induction m using Nat.strongRecOn with
  | _ m ih =>
    intro hm
    cases m with
    | zero => exact ⟨fun c k s o s' a w h => by simp [runF] at h, fun c keep k s o s' a w h => by simp [runF] at h⟩
    | succ m =>
      have ihc := (ih m (Nat.lt_succ_self _) (by omega)).1
      have ihl := (ih m (Nat.lt_succ_self _) (by omega)).2
      refine ⟨fun c k s o s' a w h hc hr => ?_, fun c keep k s o s' a w h hc hr => ?_⟩
      · simp only [runF] at h
        cases k with
        | skip =>
          simp only [step] at h
          injection h with h; injection h with h1 h2; subst h1 h2
          cases c <;> simp only [chk, Bool.false_eq_true] at hc
          · exact wp_skip ⟨rfl, hr⟩
          · exact wp_label ⟨rfl, hr⟩
        | ret =>
          simp only [step] at h
          injection h with h; injection h with h1 h2; subst h1 h2
          cases c <;> simp only [chk, Bool.false_eq_true] at hc
          exact wp_ret ⟨rfl, hr⟩
        | ext j =>
          simp only [step] at h
          injection h with h; injection h with h1 h2; subst h1 h2
          cases c <;> simp only [chk, Bool.false_eq_true, decide_eq_true_eq] at hc
          subst hc
          exact wp_exit ⟨rfl, hr⟩
        | seq x y =>
          cases c <;> simp only [chk, Bool.false_eq_true, Bool.and_eq_true] at hc
          simp only [step] at h
          split at h
          · rename_i s1 h1
            refine wp_seq (wp_mono (ihc _ x s .nrm s1 a w h1 hc.1 hr) (fun e a1 w1 ⟨he, hr1⟩ => ?_))
            subst he
            exact ihc _ y s1 o s' a1 w1 h hc.2 hr1
          · rename_i hno
            have hx : runF kp m (.code x s) = some (.out o s') := h
            have hne : o ≠ .nrm := fun e => by subst e; exact hno s' hx
            refine wp_seq (wp_mono (ihc _ x s o s' a w hx hc.1 hr) (fun e a1 w1 ⟨he, hr1⟩ => ?_))
            subst he
            cases o with
            | nrm => exact absurd rfl hne
            | ret => exact ⟨rfl, hr1⟩
            | ext j => exact ⟨rfl, hr1⟩
        | cond z x y =>
          cases c <;> simp only [chk, Bool.false_eq_true, Bool.and_eq_true] at hc
          simp only [step] at h
          split at h
          · rename_i b hz
            obtain ⟨⟨ρ, own, hb⟩, _, _⟩ := id hr
            have hv := opd_VT (P := P) (C := cx E w.heap own ρ) (by rw [show (cx E w.heap own ρ).ft = ftOf FT from hft]; exact hc.1.1) hb.env
            rw [hz] at hv
            refine wp_cond hv.bool.2 ?_
            cases b with
            | true => exact ihc _ x s o s' a w (by simpa using h) hc.1.2 hr
            | false => exact ihc _ y s o s' a w (by simpa using h) hc.2 hr
          · cases h
        | blk j x =>
          cases c <;> simp only [chk, Bool.false_eq_true, Bool.and_eq_true, decide_eq_true_eq] at hc
          obtain ⟨rfl, hc⟩ := hc
          simp only [step] at h
          split at h
          · rename_i j' s1 h1
            injection h with h; injection h with e1 e2; subst e1 e2
            refine wp_block (wp_mono (ihc _ x s (.ext j') s1 a w h1 hc hr) (fun e a1 w1 ⟨he, hr1⟩ => ?_))
            subst he
            simp only [exitOf, Exit.inBlock]
            split
            · exact ⟨rfl, hr1⟩
            · exact ⟨rfl, hr1⟩
          · rename_i hno
            have hx : runF kp m (.code x s) = some (.out o s') := h
            refine wp_block (wp_mono (ihc _ x s o s' a w hx hc hr) (fun e a1 w1 ⟨he, hr1⟩ => ?_))
            subst he
            cases o with
            | nrm => exact ⟨rfl, hr1⟩
            | ret => exact ⟨rfl, hr1⟩
            | ext j => exact absurd hx (hno j s')
        | loop keep x =>
          cases c <;> simp only [chk, Bool.false_eq_true] at hc
          simp only [step] at h
          split at h
          · rename_i s1 h1
            exact ihl _ keep x s1 o s' a w h hc (hr.canon h1)
          · cases h
        | reg pairs gis kill =>
          cases c <;> simp only [chk, Bool.false_eq_true] at hc
          simp only [step] at h
          split at h
          · rename_i s1 h1
            split at h
            · cases h
            · rename_i hms
              injection h with h; injection h with e1 e2; subst e1 e2
              exact reg_wp (by omega) hcs hds hcal hft hc h1 (by simpa using hms) hr (fun a1 w1 hr1 => ⟨rfl, hr1.forget kill⟩)
          · cases h
      · -- a loop: its measure is the least that is enough
        let p : Act → World → Nat → Prop := fun a w j => ∃ s0, j ≤ m + 1 ∧ runF kp j (.loop keep k s0) = some (.out o s') ∧ RelN P E F.n (tysOf F) (fun h => h < s0.next) s0 a w
        refine wp_loop (fun a w => ∃ j, p a w j) (fun a w => leastOf (p a w)) ⟨m + 1, s, Nat.le_refl _, h, hr⟩ (fun a w hI => ?_)
        obtain ⟨j0, hj0⟩ := hI
        obtain ⟨s0, hj1, hj2, hj3⟩ := leastOf_spec hj0
        generalize hJ : leastOf (p a w) = J at hj1 hj2
        cases J with
        | zero => simp [runF] at hj2
        | succ J =>
          have ihcJ := (ih J (by omega) (by omega)).1
          simp only [runF, step] at hj2
          split at hj2
          · rename_i s1 h1
            split at hj2
            · rename_i s2 h2
              refine wp_mono (ihcJ _ k s0 .nrm s1 a w h1 hc hj3) (fun e a1 w1 ⟨he, hr1⟩ => ?_)
              subst he
              have hp : p a1 w1 J := ⟨s2, by omega, hj2, hr1.canon h2⟩
              refine ⟨⟨J, hp⟩, ?_⟩
              have := leastOf_le hp
              omega
            · cases hj2
          · rename_i hno
            have hx : runF kp J (.code k s0) = some (.out o s') := hj2
            refine wp_mono (ihcJ _ k s0 o s' a w hx hc hj3) (fun e a1 w1 ⟨he, hr1⟩ => ?_)
            subst he
            cases o with
            | nrm => exact absurd hx (hno s')
            | ret => exact ⟨rfl, hr1⟩
            | ext j => exact ⟨rfl, hr1⟩
end
end Go.Fw
namespace Go.Fw
open Go Go.RowKit
variable {P : Program} {FT : Nat → FTy} {kp : Nat → Option KF}

/-! ### What stays as it was -/
theorem canon_base {e : Env} {s s' : St} (h : canon e s = some s') : s'.base = s.base ∧ s'.tl = s.tl := by
  simp only [canon] at h
  split at h
  · injection h with h; subst h; exact ⟨rfl, rfl⟩
  · cases h
/-- Nothing that runs turns what is below. -/
structure Stays (n : Nat) (kp : Nat → Option KF) : Prop where
  code : ∀ k s o s', runF kp n (.code k s) = some (.out o s') → s'.base = s.base ∧ s'.tl = s.tl
  loop : ∀ keep k s o s', runF kp n (.loop keep k s) = some (.out o s') → s'.base = s.base ∧ s'.tl = s.tl
  ops : ∀ l s s', runF kp n (.ops l s) = some (.st s') → s'.base = s.base ∧ s'.tl = s.tl
theorem stays : ∀ n, Stays n kp
  | 0 => ⟨fun _ _ _ _ h => by simp [runF] at h, fun _ _ _ _ _ h => by simp [runF] at h, fun _ _ _ h => by simp [runF] at h⟩
  | n + 1 => by
    have ih := stays n
    refine ⟨fun k s o s' h => ?_, fun keep k s o s' h => ?_, fun l s s' h => ?_⟩
    · simp only [runF] at h
      cases k with
      | skip => simp only [step] at h; injection h with h; injection h with h1 h2; subst h2; exact ⟨rfl, rfl⟩
      | ret => simp only [step] at h; injection h with h; injection h with h1 h2; subst h2; exact ⟨rfl, rfl⟩
      | ext j => simp only [step] at h; injection h with h; injection h with h1 h2; subst h2; exact ⟨rfl, rfl⟩
      | seq a b =>
        simp only [step] at h
        split at h
        · rename_i s1 h1
          obtain ⟨e1, e2⟩ := ih.code _ _ _ _ h1
          obtain ⟨e3, e4⟩ := ih.code _ _ _ _ h
          exact ⟨e3.trans e1, e4.trans e2⟩
        · exact ih.code _ _ _ _ h
      | cond c a b =>
        simp only [step] at h
        split at h
        · split at h
          · exact ih.code _ _ _ _ h
          · exact ih.code _ _ _ _ h
        · cases h
      | blk j a =>
        simp only [step] at h
        split at h
        · rename_i s1 h1
          injection h with h; injection h with h2 h3; subst h3
          exact ih.code _ _ _ _ h1
        · exact ih.code _ _ _ _ h
      | loop keep a =>
        simp only [step] at h
        split at h
        · rename_i s1 h1
          obtain ⟨e1, e2⟩ := canon_base h1
          obtain ⟨e3, e4⟩ := ih.loop _ _ _ _ _ h
          exact ⟨e3.trans e1, e4.trans e2⟩
        · cases h
      | reg pairs ops kill =>
        simp only [step] at h
        split at h
        · rename_i s1 h1
          split at h
          · cases h
          · injection h with h; injection h with h2 h3; subst h3
            obtain ⟨e1, e2⟩ := ih.ops _ _ _ h1
            exact ⟨e1, e2⟩
        · cases h
    · simp only [runF, step] at h
      split at h
      · rename_i s1 h1
        split at h
        · rename_i s2 h2
          obtain ⟨e1, e2⟩ := ih.code _ _ _ _ h1
          obtain ⟨e3, e4⟩ := canon_base h2
          obtain ⟨e5, e6⟩ := ih.loop _ _ _ _ _ h
          exact ⟨e5.trans (e3.trans e1), e6.trans (e4.trans e2)⟩
        · cases h
      · exact ih.code _ _ _ _ h
    · simp only [runF] at h
      cases l with
      | nil => simp only [step] at h; injection h with h; injection h with h; subst h; exact ⟨rfl, rfl⟩
      | cons x r =>
        obtain ⟨g, i⟩ := x
        rw [step_ops] at h
        split at h
        · cases h
        · obtain ⟨e1, e2⟩ := ih.ops _ _ _ h
          exact ⟨e1, e2⟩
        · split at h
          · obtain ⟨e1, e2⟩ := ih.ops _ _ _ h
            exact ⟨e1, e2⟩
          · cases h

theorem hlook_none {u : Hp} {h : Nat} (hn : h ∉ u.map (·.1)) : hlook u h = none := by
  induction u with
  | nil => rfl
  | cons x u ih =>
    obtain ⟨k, b⟩ := x
    simp only [List.map_cons, List.mem_cons, not_or] at hn
    simp only [hlook]
    rw [if_neg (fun e => hn.1 e.symm)]
    exact ih hn.2
theorem ulast_hlook : ∀ {u : Hp}, nodup (u.map (·.1)) = true → ∀ h, ulast u h = hlook u h
  | [], _, _ => rfl
  | (k, b) :: u, hn, h => by
    rw [List.map_cons, nodup_cons] at hn
    simp only [ulast, hlook, ulast_hlook hn.2 h]
    by_cases e : k = h
    · subst e
      rw [hlook_none hn.1, if_pos rfl]
    · rw [if_neg e, if_neg e]
      cases hlook u h <;> rfl

/-! ### The check of a function -/
variable (P) in
def resOk (F : FTy) : List ResultVar → List Res → List Ty → Bool
  | [], [], [] => true
  | .tmp t :: l, .t n :: m, ty :: ts => decide (t = n) && decide (tysOf F t = .o ty) && resOk F l m ts
  | .cell a t :: l, .cell n :: m, ty :: ts => decide (a = n) && tyGood P t && decide (tyOf P t = ty) && decide (tysOf F a = .o (.pt t)) && resOk F l m ts
  | _, _, _ => false
def parOk (F : FTy) : List Ty → Nat → Bool
  | [], _ => true
  | t :: l, i => decide (tysOf F i = .o t) && parOk F l (i + 1)
variable (P FT) in
def fnOk (f : Nat) (kf : KF) : Bool := match P.funcs[f]? with
  | some fn => (match fn.body with
    | some c => chk P FT (FT f) c kf.body && resOk P (FT f) fn.results.toList kf.res (FT f).rs && decide ((FT f).n = fn.ntmps) && parOk (FT f) ((FT f).ps ++ (FT f).cps) 0 && decide (((FT f).ps ++ (FT f).cps).length ≤ fn.ntmps)
    | none => false)
  | none => false
theorem parOk.get {F : FTy} : ∀ {l : List Ty} {i : Nat}, parOk F l i = true → ∀ (j : Nat) (t : Ty), l[j]? = some t → tysOf F (i + j) = .o t
  | [], _, _, j, t, h => by simp at h
  | x :: l, i, h, j, t, ht => by
    simp only [parOk, Bool.and_eq_true, decide_eq_true_eq] at h
    cases j with
    | zero => simp at ht; subst ht; exact h.1
    | succ j =>
      have := parOk.get h.2 j t (by simpa using ht)
      rw [← this]; congr 1; omega
theorem look_params : ∀ (vs : List V) (n j : Nat), look (params n vs) j = if n ≤ j then (vs[j - n]?).getD .und else .und
  | [], n, j => by simp [params, look]
  | v :: vs, n, j => by
    simp only [params, look]
    by_cases e : n = j
    · subst e; simp
    · rw [if_neg e, look_params vs (n + 1) j]
      by_cases h : n ≤ j
      · have e1 : j - n = (j - (n + 1)) + 1 := by omega
        rw [if_pos (by omega), if_pos h, e1]; simp
      · rw [if_neg (by omega), if_neg h]

section
variable {E : Fr} {s : St} {a : Act} {w : World}
/-- One result. -/
def resVar (tmps : Array Value) : ResultVar → Sem Value
  | .tmp t => pure (tmps.getD t undef)
  | .cell a t => do loadVar t (← asAddr (tmps.getD a undef))
theorem resVar_ok {F : FTy} {U : Nat → Prop} {ρ : Nat → Option Loc} {own : Nat → Prop} (hb : RelB P E (tysOf F) U s a w ρ own) : ∀ {rv : List ResultVar} {rs : List Res} {ts : List Ty} {vs : List V}, resOk P F rv rs ts = true → resOf s rs = some vs →
    ∃ xs : List Value, (rv.mapM (resVar a.tmps)).run P w = .ok xs w ∧ vs.length = ts.length ∧ xs.length = ts.length ∧
      ∀ (i : Nat) (ty : Ty) (v : V) (x : Value), ts[i]? = some ty → vs[i]? = some v → xs[i]? = some x → VS P (cx E w.heap own ρ) ty v x
  | [], [], [], vs, _, h => by
    simp only [resOf] at h; injection h with h; subst h
    exact ⟨[], by simp, rfl, rfl, fun i ty v x h => by simp at h⟩
  | .tmp t :: rv, .t n :: rs, ty :: ts, vs, hc, h => by
    simp only [resOk, Bool.and_eq_true, decide_eq_true_eq] at hc
    obtain ⟨⟨rfl, h2⟩, h3⟩ := hc
    simp only [resOf] at h
    split at h
    · cases h
    · rename_i hu
      split at h
      · rename_i vs' hvs
        injection h with h; subst h
        obtain ⟨xs, k1, k2, k3, k4⟩ := resVar_ok hb h3 hvs
        have hv := hb.env t
        rw [h2] at hv
        have hv := hv.vs (by simpa using hu)
        refine ⟨a.tmps.getD t undef :: xs, ?_, by simp [k2], by simp [k3], fun i ty' v x e1 e2 e3 => ?_⟩
        · simp only [List.mapM_cons, resVar, Sem.run_bind, Sem.run_pure, Result.andThen_ok, k1]
        · cases i with
          | zero => simp at e1 e2 e3; subst e1 e2 e3; simpa using hv
          | succ i => exact k4 i ty' v x (by simpa using e1) (by simpa using e2) (by simpa using e3)
      · cases h
  | .cell b t :: rv, .cell n :: rs, ty :: ts, vs, hc, h => by
    simp only [resOk, Bool.and_eq_true, decide_eq_true_eq] at hc
    obtain ⟨⟨⟨⟨rfl, ht⟩, rfl⟩, h2⟩, h3⟩ := hc
    simp only [resOf] at h
    split at h
    · rename_i v vs' hl hvs
      split at h
      · cases h
      · rename_i hu
        injection h with h; subst h
        obtain ⟨xs, k1, k2, k3, k4⟩ := resVar_ok hb h3 hvs
        have hv := hb.env b
        rw [h2] at hv
        have hne : (look s.env b).isUnd = false := by
          cases hk : look s.env b <;> first | rfl | (rw [hk] at hl; simp [loadV] at hl)
        have hv := hv.vs hne
        obtain ⟨bb, oo, cs, m1, m2, m3, m4⟩ := loadV_VR hb hv hl
        have hune : v ≠ .und := V.ne_und (by simpa using hu)
        obtain ⟨x, hx, hs⟩ := run_loadVar_at ht m2 m3 m4 hune
        refine ⟨x :: xs, ?_, by simp [k2], by simp [k3], fun i ty' v' x' e1 e2 e3 => ?_⟩
        · simp only [List.mapM_cons, resVar, Sem.run_bind, Sem.run_pure, Result.andThen_ok, k1, m1, asAddr, hx]
        · cases i with
          | zero => simp at e1 e2 e3; subst e1 e2 e3; exact hs
          | succ i => exact k4 i ty' v' x' (by simpa using e1) (by simpa using e2) (by simpa using e3)
    · cases h
  | [], [], _ :: _, _, hc, _ => by simp [resOk] at hc
  | [], _ :: _, _, _, hc, _ => by simp [resOk] at hc
  | .tmp _ :: _, [], _, _, hc, _ => by simp [resOk] at hc
  | .cell _ _ :: _, [], _, _, hc, _ => by simp [resOk] at hc
  | .tmp _ :: _, .t _ :: _, [], _, hc, _ => by simp [resOk] at hc
  | .tmp _ :: _, .cell _ :: _, _, _, hc, _ => by simp [resOk] at hc
  | .cell _ _ :: _, .t _ :: _, _, _, hc, _ => by simp [resOk] at hc
  | .cell _ _ :: _, .cell _ :: _, [], _, hc, _ => by simp [resOk] at hc
theorem results_ok {F : FTy} {U : Nat → Prop} {ρ : Nat → Option Loc} {own : Nat → Prop} (hb : RelB P E (tysOf F) U s a w ρ own) {fn : Func} {rs : List Res} {ts : List Ty} {vs : List V} (hc : resOk P F fn.results.toList rs ts = true) (h : resOf s rs = some vs) :
    ∃ x, (results fn a.tmps).run P w = .ok x w ∧ VT P (cx E w.heap own ρ) (resT ts) (resV vs) x := by
  obtain ⟨xs, k1, k2, k3, k4⟩ := resVar_ok hb hc h
  have hm : (fn.results.mapM (resVar a.tmps)).run P w = Result.ok xs.toArray w := by
    rw [Array.mapM_eq_mapM_toList, map_eq_pure_bind]
    simp only [Sem.run_bind, k1, Result.andThen_ok, Sem.run_pure]
  refine ⟨if h : xs.toArray.size = 1 then xs.toArray[0] else .tuple xs.toArray, ?_, ?_⟩
  · have e : results fn a.tmps = (do let vs ← fn.results.mapM (resVar a.tmps); pure (if h : vs.size = 1 then vs[0] else .tuple vs)) := by
      unfold results
      congr 1
    rw [e]
    simp only [Sem.run_bind, Sem.run_pure, hm, Result.andThen_ok]
  · match ts, vs, xs, k2, k3, k4 with
    | [ty], [v], [x], _, _, k4 => exact .inr (.inr (k4 0 ty v x rfl rfl rfl))
    | [], [], [], _, _, _ => exact .inr (.inr ⟨[], #[], rfl, rfl, rfl, rfl, fun i ty v w h => by simp at h⟩)
    | t1 :: t2 :: ts, v1 :: v2 :: vs, x1 :: x2 :: xs, k2, k3, k4 =>
      rw [dif_neg (by simp)]
      exact .inr (.inr ⟨_, _, rfl, rfl, k2, by simpa using k3, fun i ty v x h1 h2 h3 => .inr (k4 i ty v x h1 h2 (by simpa using h3))⟩)
end
end Go.Fw
namespace Go.Fw
open Go Go.RowKit
variable {P : Program} {FT : Nat → FTy}

/-- What else of a world stays. -/
def Same (w w' : World) : Prop := w'.os = w.os ∧ w'.tape = w.tape ∧ w'.output = w.output
/-- What a function does that deletes elements i to j of a row, each of so many cells. -/
structure DelSpec (P : Program) (f sz : Nat) : Prop where
  nil : ∀ w, Calls P f #[.slice none 0 0, .int .i64 0, .int .i64 0] w fun e w' => e = .returned (.slice none 0 0) ∧ w' = w
  same : ∀ ad n cap (i : Nat) w, n ≤ cap → cap ≤ maxLen → i ≤ n → Calls P f #[.slice (some ad) n cap, .int .i64 i, .int .i64 i] w fun e w' => e = .returned (.slice (some ad) n cap) ∧ w' = w
  cut : ∀ b off n cap (i j : Nat) c te w, w.heap[b]? = some (.cells c te (0, 0)) → n ≤ cap → cap ≤ maxLen → off + cap * sz ≤ c.size → i < j → j ≤ n → (∀ x ∈ seg c.toList off (n * sz), x.oneCell' = true) →
    Calls P f #[.slice (some ⟨b, off, none⟩) n cap, .int .i64 i, .int .i64 j] w fun e w' => e = .returned (.slice (some ⟨b, off, none⟩) (i + (n - j)) cap) ∧ ∃ r : Array Value, Same w w' ∧ w'.heap = (w.setRow b r).heap ∧ r.size = c.size ∧
      seg r.toList off (i * sz) = seg c.toList off (i * sz) ∧ seg r.toList (off + i * sz) ((n - j) * sz) = seg c.toList (off + j * sz) ((n - j) * sz)
/-- What a function does that lays a row's elements into another row, ahead of element i. -/
structure InsSpec (P : Program) (f : Nat) (el : TypeId) (sz : Nat) : Prop where
  room : ∀ b off n cap (i : Nat) vb voff m vc c te cv tv w, w.heap[b]? = some (.cells c te (0, 0)) → w.heap[vb]? = some (.cells cv tv (0, 0)) → vb ≠ b → n + m ≤ cap → cap ≤ maxLen → off + cap * sz ≤ c.size → voff + m * sz ≤ cv.size →
    0 < m → m ≤ vc → vc ≤ maxLen → i ≤ n → (∀ x ∈ seg c.toList off (n * sz), x.oneCell' = true) → (∀ x ∈ seg cv.toList voff (m * sz), x.oneCell' = true) →
    Calls P f #[.slice (some ⟨b, off, none⟩) n cap, .int .i64 i, .slice (some ⟨vb, voff, none⟩) m vc] w fun e w' => e = .returned (.slice (some ⟨b, off, none⟩) (n + m) cap) ∧ ∃ r : Array Value, Same w w' ∧ w'.heap = (w.setRow b r).heap ∧ r.size = c.size ∧
      seg r.toList off (i * sz) = seg c.toList off (i * sz) ∧ seg r.toList (off + i * sz) (m * sz) = seg cv.toList voff (m * sz) ∧ seg r.toList (off + (i + m) * sz) ((n - i) * sz) = seg c.toList (off + i * sz) ((n - i) * sz)
  grow : ∀ base n cap (i : Nat) vb voff m vc (olds : List Value) cv tv w, w.heap[vb]? = some (.cells cv tv (0, 0)) → n ≤ cap → cap < n + m → n + m ≤ mostLen → olds.length = n * sz → voff + m * sz ≤ cv.size → 0 < m → m ≤ vc → vc ≤ maxLen → i ≤ n →
    (n = 0 ∨ ∃ b off c te, base = some ⟨b, off, none⟩ ∧ w.heap[b]? = some (.cells c te (0, 0)) ∧ off + n * sz ≤ c.size ∧ olds = seg c.toList off (n * sz)) → (base = none → n = 0 ∧ cap = 0) →
    (∀ x ∈ olds, x.oneCell' = true) → (∀ x ∈ seg cv.toList voff (m * sz), x.oneCell' = true) →
    Calls P f #[.slice base n cap, .int .i64 i, .slice (some ⟨vb, voff, none⟩) m vc] w fun e w' => ∃ (cap' : Nat) (r : Array Value), e = .returned (.slice (some ⟨w.heap.size, 0, none⟩) (n + m) cap') ∧ n + m ≤ cap' ∧ cap' ≤ maxLen ∧ Same w w' ∧
      w'.heap = w.heap.push (.cells r el) ∧ cap' * sz ≤ r.size ∧ seg r.toList 0 (i * sz) = seg olds 0 (i * sz) ∧ seg r.toList (i * sz) (m * sz) = seg cv.toList voff (m * sz) ∧ seg r.toList ((i + m) * sz) ((n - i) * sz) = seg olds (i * sz) ((n - i) * sz)
/-- What is to be shown of a function that is known as a whole. -/
def NatSnd (P : Program) (FT : Nat → FTy) (f : Nat) (k : NK) : Prop := ∃ el, (FT f).cps = [] ∧ (FT f).rs = [.sl el] ∧ (match k with
  | .del => (FT f).ps = [.sl el, .i .i64, .i .i64] ∧ DelSpec P f (tySize P (tyOf P el))
  | .ins => (FT f).ps = [.sl el, .i .i64, .sl el] ∧ InsSpec P f el (tySize P (tyOf P el)))

section
variable {E : Fr} {tys : Nat → TTy} {U : Nat → Prop} {s : St} {a : Act} {w : World}
/-- A row of one's own, written anew in its block, under a new handle. -/
theorem RelB.rerow {ρ : Nat → Option Loc} {own : Nat → Prop} (hb : RelB P E tys U s a w ρ own) (h3 : ¬ U s.next) {h : Nat} {L : Loc} {l : List D} {b off cap : Nat} {el te : TypeId} {c r : Array Value} {w' : World} {ds : List D} {sz : Nat}
    (q1 : s.g h = some (.row true l)) (q2 : ρ h = some L) (r1 : L.blk = some b) (u2 : w.heap[b]? = some (.cells c te (0, 0))) (u3 : c.size = L.size) (u5 : own b) (hsz : tySize P (tyOf P el) = sz)
    (hos : Same w w') (hw : w'.heap = (w.setRow b r).heap) (hr : r.size = c.size) (hlen : ds.length ≤ cap) (hcap : L.off + (off + cap) * sz ≤ L.size) (hcm : cap ≤ maxLen)
    (hrd : ∀ (i : Nat) (d : D), ds[i]? = some d → RD P w.heap (cx E w.heap own ρ).S (tyOf P el) d (seg r.toList (L.off + off * sz + i * sz) sz)) {d : Nat} (hlt : d < a.tmps.size) (hty : tys d = .o (.sl el)) :
    RelB P E tys (addU U s.next (s.next + 1)) (s.after (some d) (.sl false s.next 0 ds.length) (dead (some h) ++ [(s.next, .row true ds)]) (s.next + 1)) (a.put (some d) (.slice (some ⟨b, L.off + off * sz, none⟩) ds.length cap)) w'
      (newLoc ρ s.next (rowLoc (some b) (L.off + off * sz) L.size el)) own := by
  have hn : newLoc ρ s.next (rowLoc (some b) (L.off + off * sz) L.size el) s.next = some (rowLoc (some b) (L.off + off * sz) L.size el) := by simp [newLoc]
  have ev0 := Evo.setRow (w := w) (own := own) (ρ := ρ) u5 r
  have ev : Evo w.heap w'.heap own own ρ (newLoc ρ s.next (rowLoc (some b) (L.off + off * sz) L.size el)) (fun x => x = b) := by
    rw [hw]
    exact ⟨ev0.size, ev0.same, ev0.xOwn, ev0.mine, ev0.keep, fun h' L' hL' => (by
      unfold newLoc; rw [if_neg (fun hh => h3 (by rw [← hh]; exact hb.heap.fresh h' L' hL'))]; exact hL')⟩
  have le := ev.le (E := E)
  have hmul : (off + cap) * sz = off * sz + cap * sz := Nat.add_mul _ _ _
  have hls : ds.length * sz ≤ cap * sz := Nat.mul_le_mul_right _ hlen
  refine hb.renew (bk := .row true ds) (dh := some h) (d := some d) (v := .sl false s.next 0 ds.length) (x := .slice (some ⟨b, L.off + off * sz, none⟩) ds.length cap) hos ev h3
    (fun b0 hb0 => ⟨h, _, L, rfl, q1, rfl, q2, by rw [hb0]; exact r1⟩)
    (fun b0 hb0 h' x' L3 g1 g2 g3 g4 => by
      injection hb0 with hb0; subst hb0
      rw [hb.heap.apart h h' _ _ L L3 b q1 g1 rfl g2 q2 g3 r1 g4])
    ⟨_, hn, rfl, .inr ⟨b, r, te, rfl, by
      show w'.heap[b]? = _
      rw [hw]
      exact setRow_heap w b c r te (0, 0) u2, by rw [hr, u3]; rfl, ?_, u5, fun i dd hdd => ?_⟩⟩
    (fun k hk => by
      injection hk with hk; subst hk
      refine ⟨hlt, ?_⟩
      rw [hty]
      refine .mk (VS.of_single (.sl ⟨_, hn, rfl, rfl, .inr ⟨rfl, _, cap, rfl, hlen, hcm, .inr ⟨b, rfl, ?_, ?_⟩⟩⟩) rfl rfl)
      · simp [rowLoc]
      · show L.off + off * sz + (0 + cap) * tySize P (tyOf P el) ≤ L.size
        rw [hsz, Nat.zero_add]
        omega)
  · show L.off + off * sz + ds.length * tySize P (tyOf P el) ≤ r.size
    rw [hsz, hr, u3]
    omega
  · show RD P _ _ (tyOf P el) dd (seg r.toList (L.off + off * sz + i * tySize P (tyOf P el)) (tySize P (tyOf P el)))
    rw [hsz]
    exact (hrd i dd hdd).mono le

/-- What a call gives, out of the state behind it. -/
theorem callRes_of {f k : Nat} {g : Nat → Option Blk} {ρ ρ2 : Nat → Option Loc} {own own' : Nat → Prop} {tys' : Nat → TTy} {a' : Act} {w' : World} {v : V} {x : Value} {e1 : Env} {h1 : Hp}
    (hb2 : RelB P { E with w1 := w, ρ1 := ρ, own1 := own } tys' (addU (fun h => h < k) k (k + 1)) ⟨e1, h1, g, k, k + 1⟩ a' w' ρ2 own') (hv : VT P (cx E w'.heap own' ρ2) (resT (FT f).rs) v x) :
    CallRes P FT f E g k w ρ own v h1 (k + 1) x w' ρ2 own' := by
  have hul : ∀ h, ulast h1 h = hlook h1 h := ulast_hlook hb2.nd
  exact
    { heap := by
        have hh := hb2.heap
        have e1 : (St.g ⟨e1, h1, g, k, k + 1⟩) = fun h => match ulast h1 h with | some b => some b | none => g h := by
          funext h
          simp only [St.g, hul]
          cases hlook h1 h <;> rfl
        rw [e1] at hh
        exact ⟨hh.bnd, fun h L hL => by
          have := hh.fresh h L hL
          simp only [addU] at this
          show h < k + 1
          omega, hh.blk, hh.apart⟩
      le := hb2.le
      below := hb2.below
      bsize := hb2.bsize
      val := hv
      tail := fun β hβ h b e1 e2 e3 => hb2.tail β hβ h b (by rw [← hul]; exact e1) e2 e3
      next := Nat.le_succ _
      nd := hb2.nd }

/-- The state in which a function that is known as a whole begins. -/
theorem rel_enter {g : Nat → Option Blk} {k : Nat} {ρ : Nat → Option Loc} {own : Nat → Prop} (el : TypeId) (hheap : HRel P E g (fun h => h < k) w.heap ρ own) (hbs : E.B ≤ w.heap.size) (hbelow : Below E.B E.w0 w) :
    RelB P { E with w1 := w, ρ1 := ρ, own1 := own } (fun i => if i = 0 then .o (.sl el) else .o .no) (fun h => h < k) ⟨[], [], g, k, k⟩ { tmps := #[undef], defers := [] } w ρ own := by
  have hltρ : ltρ k ρ = ρ := by
    funext h
    unfold ltρ
    split
    · rfl
    · rename_i hh
      cases hr : ρ h with
      | none => rfl
      | some L => exact absurd (hheap.fresh h L hr) hh
  exact
    { heap := ⟨hheap.bnd, hheap.fresh, hheap.blk, hheap.apart⟩
      env := fun i => .inl rfl
      tail := fun β _ h b _ _ h3 => h3
      le := Ctx.Le.refl _
      nd := rfl
      start := fun h b hh => by
        show BR P (cx E w.heap own (ltρ k ρ)) own h b
        rw [hltρ]
        exact hheap.blk h b hh
      dom := fun h L hL => hheap.fresh h L hL
      base := Nat.le_refl _
      below := hbelow
      bsize := hbs }
end
end Go.Fw
namespace Go.Fw
open Go Go.RowKit
variable {P : Program} {FT : Nat → FTy}

theorem args3 {C : Ctx} {t1 t2 t3 : Ty} {v1 v2 v3 : V} {args : Array Value} (h : argsVT P C [t1, t2, t3] [v1, v2, v3] args.toList) : ∃ x1 x2 x3, args = #[x1, x2, x3] ∧ VT P C (.o t1) v1 x1 ∧ VT P C (.o t2) v2 x2 ∧ VT P C (.o t3) v3 x3 := by
  obtain ⟨_, h2, h3⟩ := h
  obtain ⟨l⟩ := args
  simp only at h2 h3
  match l, h2, h3 with
  | [x1, x2, x3], _, h3 => exact ⟨x1, x2, x3, rfl, h3 0 _ _ _ rfl rfl rfl, h3 1 _ _ _ rfl rfl rfl, h3 2 _ _ _ rfl rfl rfl⟩
theorem seg_mono {x y : List Value} {o o' n k sz i : Nat} (h : seg x o n = seg y o' n) (hi : i < k) (hn : n = k * sz) : seg x (o + i * sz) sz = seg y (o' + i * sz) sz := by
  subst hn
  have := mul_part (s := sz) hi
  rw [← seg_seg this, h, seg_seg this]
theorem getElem?_insAt {x y : List D} {i t : Nat} (hi : i ≤ x.length) : (insAt x i y)[t]? = if t < i then x[t]? else if t < i + y.length then y[t - i]? else x[t - y.length]? := by
  unfold insAt
  have hl : (x.take i).length = i := by simp; omega
  by_cases h : t < i
  · rw [if_pos h, List.getElem?_append_left (by omega), List.getElem?_take, if_pos h]
  · rw [if_neg h, List.getElem?_append_right (by omega), hl]
    by_cases h2 : t < i + y.length
    · rw [if_pos h2, List.getElem?_append_left (by omega)]
    · rw [if_neg h2, List.getElem?_append_right (by omega), List.getElem?_drop]
      congr 1; omega
theorem insAt_length {x y : List D} {i : Nat} (hi : i ≤ x.length) : (insAt x i y).length = x.length + y.length := by
  unfold insAt; simp; omega

section
variable {E : Fr} {w : World} {g : Nat → Option Blk} {k : Nat} {ρ : Nat → Option Loc} {own : Nat → Prop}
theorem hputs_dead {h k : Nat} {b : Blk} (hne : h ≠ k) : hputs [] (dead (some h) ++ [(k, b)]) = [(h, .dead), (k, b)] := by
  simp [dead, hputs, hput, hne]
/-- A row of one's own, and where it lies. -/
theorem row_at {h off len : Nat} {el : TypeId} {l m : List D} {x : Value} {nl : Bool} (hr : HRel P E g (fun h => h < k) w.heap ρ own) (hs : Sl P (cx E w.heap own ρ) el nl h off len x) (hg : g h = some (.row true l)) (hp : pieceOf l off len = some m) :
    ∃ L, ρ h = some L ∧ h < k ∧ m.length = len ∧ ((nl = true ∧ len = 0 ∧ x = .slice none 0 0) ∨
      (nl = false ∧ ∃ ad cap, x = .slice (some ad) len cap ∧ len ≤ cap ∧ cap ≤ maxLen ∧ (cap = 0 ∨ ∃ b c te, L.blk = some b ∧ ad = ⟨b, L.off + off * tySize P (tyOf P el), none⟩ ∧ L.off + (off + cap) * tySize P (tyOf P el) ≤ L.size ∧ w.heap[b]? = some (.cells c te (0, 0)) ∧ c.size = L.size ∧ own b ∧
        ∀ (i : Nat) (d : D), m[i]? = some d → RD P w.heap (cx E w.heap own ρ).S (tyOf P el) d (seg c.toList (L.off + off * tySize P (tyOf P el) + i * tySize P (tyOf P el)) (tySize P (tyOf P el)))))) := by
  obtain ⟨L, k1, k2, k3, k4⟩ := hs
  have k1 : ρ h = some L := k1
  obtain ⟨p1, p2, p3⟩ := pieceOf.out hp
  refine ⟨L, k1, hr.fresh h L k1, p2, ?_⟩
  rcases k4 with ⟨q1, q2, q3⟩ | ⟨q1, ad, cap, q2, q3, q4, q5⟩
  · exact .inl ⟨q1, q2, q3⟩
  · refine .inr ⟨q1, ad, cap, q2, q3, q4, ?_⟩
    rcases q5 with q5 | ⟨b, r1, r2, r3⟩
    · exact .inl q5
    · obtain ⟨L', t1, t2, t3⟩ := hr.blk h _ hg
      have t1 : ρ h = some L' := t1
      rw [k1] at t1; injection t1 with t1; subst t1
      rcases t3 with ⟨_, t3⟩ | ⟨b', c, te, u1, u2, u3, u4, u5, u6⟩
      · rw [r1] at t3; cases t3
      · rw [r1] at u1; injection u1 with u1; subst u1
        simp only [if_true] at u5
        rw [k3] at u6
        refine .inr ⟨b, c, te, r1, r2, r3, u2, u3, u5, fun i d hd => ?_⟩
        obtain ⟨_, hl'⟩ := p3 i d hd
        have := u6 (off + i) d hl'
        rw [Nat.add_mul, ← Nat.add_assoc] at this
        exact this

theorem del_snd {f : Nat} {el : TypeId} {vs : List V} {v : V} {u : Hp} {k' : Nat} (h1 : (FT f).cps = []) (h2 : (FT f).rs = [.sl el]) (h3 : (FT f).ps = [.sl el, .i .i64, .i .i64]) (sp : DelSpec P f (tySize P (tyOf P el))) (h : delV g k vs = some (v, u, k'))
    (hheap : HRel P E g (fun h => h < k) w.heap ρ own) (hbs : E.B ≤ w.heap.size) (hbelow : Below E.B E.w0 w) {args : Array Value} (hargs : argsVT P (cx E w.heap own ρ) ((FT f).ps ++ (FT f).cps) vs args.toList) :
    Calls P f args w (fun e w' => ∃ x, e = .returned x ∧ ∃ ρ' own', CallRes P FT f E g k w ρ own v u k' x w' ρ' own') := by
  rw [h1, h3, List.append_nil] at hargs
  unfold delV at h
  split at h
  · rename_i a hh off len i j
    split at h
    · rename_i hij
      split at h
      · rename_i l hg
        split at h
        · rename_i m hm
          injection h with h; injection h with e1 e2; injection e2 with e2 e3; subst e1 e2 e3
          obtain ⟨x1, x2, x3, rfl, v1, v2, v3⟩ := args3 hargs
          obtain ⟨_, rfl, _⟩ := v2.int
          obtain ⟨_, rfl, _⟩ := v3.int
          obtain ⟨el', e1, hs⟩ := (v1.vs rfl).sl
          injection e1 with e1; subst e1
          obtain ⟨L, q2, hlt, hml, hc⟩ := row_at hheap hs hg hm
          have hne : hh ≠ k := by omega
          have hne' : ¬ k < k := by omega
          have hen := rel_enter (P := P) el hheap hbs hbelow
          obtain ⟨i, rfl⟩ := Int.eq_ofNat_of_zero_le hij.1
          obtain ⟨j, rfl⟩ := Int.eq_ofNat_of_zero_le (Int.le_trans hij.1 hij.2.1)
          have hij1 : i ≤ j := by omega
          have hj : j ≤ len := by omega
          rw [Int.toNat_natCast, Int.toNat_natCast]
          have hdl : (m.take i ++ m.drop j).length = i + (len - j) := by simp; omega
          have fin : ∀ {x : Value} {w' : World} {ρ' : Nat → Option Loc} {own' : Nat → Prop} {nl : Bool}, RelB P { E with w1 := w, ρ1 := ρ, own1 := own } (fun i => if i = 0 then .o (.sl el) else .o .no) (addU (fun h => h < k) k (k + 1))
              (St.after ⟨[], [], g, k, k⟩ (some 0) (.sl nl k 0 (m.take i ++ m.drop j).length) (dead (some hh) ++ [(k, .row true (m.take i ++ m.drop j))]) (k + 1)) (Act.put { tmps := #[undef], defers := [] } (some 0) x) w' ρ' own' →
              ∃ x', Ending.returned x = .returned x' ∧ ∃ ρ' own', CallRes P FT f E g k w ρ own (.sl nl k 0 (i + (len - j))) [(hh, .dead), (k, .row true (m.take i ++ m.drop j))] (k + 1) x' w' ρ' own' := by
            intro x w' ρ' own' nl hb2
            refine ⟨x, rfl, ρ', own', ?_⟩
            have hv : VT P (cx E w'.heap _ _) _ _ _ := hb2.env 0
            simp only [St.after] at hb2
            rw [hputs_dead hne] at hb2
            refine callRes_of hb2 ?_
            rw [h2, ← hdl]
            simpa [St.after, putO, put, look, Act.put, resT] using hv
          rcases hc with ⟨rfl, rfl, rfl⟩ | ⟨rfl, ad, cap, rfl, c1, c2, c3⟩
          · obtain rfl : i = 0 := by omega
            obtain rfl : j = 0 := by omega
            obtain rfl : m = [] := List.eq_nil_of_length_eq_zero hml
            refine (sp.nil w).mono ?_
            rintro e w' ⟨rfl, rfl⟩
            exact fin (nl := true) (hen.noRow (dh := some hh) (d := 0) (e := el) hne' (.inl ⟨rfl, rfl⟩) (by simp) rfl)
          · rcases c3 with c3 | ⟨b, c, te, r1, rfl, r3, r4, r5, r6, r7⟩
            · obtain rfl : cap = 0 := c3
              obtain rfl : len = 0 := by omega
              obtain rfl : i = 0 := by omega
              obtain rfl : j = 0 := by omega
              obtain rfl : m = [] := List.eq_nil_of_length_eq_zero hml
              refine (sp.same ad 0 0 0 w (by omega) (by omega) (by omega)).mono ?_
              rintro e w' ⟨rfl, rfl⟩
              exact fin (nl := false) (hen.noRow (dh := some hh) (d := 0) (e := el) hne' (.inr ⟨rfl, ad, rfl⟩) (by simp) rfl)
            · generalize hszd : tySize P (tyOf P el) = sz at *
              have hmul : (off + cap) * sz = off * sz + cap * sz := Nat.add_mul _ _ _
              have key : Calls P f #[.slice (some ⟨b, L.off + off * sz, none⟩) len cap, .int .i64 i, .int .i64 j] w fun e w' => e = .returned (.slice (some ⟨b, L.off + off * sz, none⟩) (i + (len - j)) cap) ∧ ∃ r : Array Value, Same w w' ∧ w'.heap = (w.setRow b r).heap ∧ r.size = c.size ∧
                  seg r.toList (L.off + off * sz) (i * sz) = seg c.toList (L.off + off * sz) (i * sz) ∧ seg r.toList (L.off + off * sz + i * sz) ((len - j) * sz) = seg c.toList (L.off + off * sz + j * sz) ((len - j) * sz) := by
                by_cases hlt : i < j
                · refine sp.cut b (L.off + off * sz) len cap i j c te w r4 c1 c2 (by omega) hlt hj (fun x hx => ?_)
                  refine one_of_parts (n := len) (sz := sz) (seg_length (by
                    have : len * sz ≤ cap * sz := Nat.mul_le_mul_right _ c1
                    simp only [Array.length_toList]; omega)) (fun t ht => ?_) x hx
                  rw [seg_seg (mul_part ht)]
                  exact (r7 t m[t] (List.getElem?_eq_getElem (by omega))).one
                · obtain rfl : i = j := by omega
                  refine (sp.same _ len cap i w c1 c2 hj).mono ?_
                  rintro e w' ⟨rfl, rfl⟩
                  exact ⟨by rw [Nat.add_sub_cancel' hj], c, ⟨rfl, rfl, rfl⟩, by rw [setRow_self w' b c te (0, 0) r4], rfl, rfl, rfl⟩
              refine key.mono ?_
              rintro e w' ⟨rfl, r, s1, s2, s3, s4, s5⟩
              have hfin := hen.rerow (h := hh) (L := L) (l := l) (b := b) (off := off) (cap := cap) (el := el) (te := te) (c := c) (r := r) (w' := w') (ds := m.take i ++ m.drop j) (sz := sz) (d := 0) hne' hg q2 r1 r4 r5 r6 hszd s1 s2 s3 (by rw [hdl]; omega) r3 c2
                (fun t dd hdd => by
                  show RD P w.heap (cx E w.heap own ρ).S (tyOf P el) dd _
                  by_cases ht : t < i
                  · rw [List.getElem?_append_left (by simp; omega), List.getElem?_take, if_pos ht] at hdd
                    rw [seg_mono s4 ht rfl]
                    exact r7 t dd hdd
                  · have hl : (m.take i).length = i := by simp; omega
                    rw [List.getElem?_append_right (by omega), hl, List.getElem?_drop] at hdd
                    have hb := (List.getElem?_eq_some_iff.1 hdd).1
                    have e1 : L.off + off * sz + t * sz = L.off + off * sz + i * sz + (t - i) * sz := by
                      have : t * sz = i * sz + (t - i) * sz := by rw [← Nat.add_mul]; congr 1; omega
                      omega
                    rw [e1, seg_mono s5 (show t - i < len - j by omega) rfl]
                    have := r7 _ dd hdd
                    rw [Nat.add_mul, ← Nat.add_assoc] at this
                    exact this) (by simp) rfl
              rw [← hdl]
              have := fin (nl := false) hfin
              rwa [← hdl] at this
        · cases h
      · cases h
    · cases h
  · cases h
end
end Go.Fw
namespace Go.Fw
open Go Go.RowKit
variable {P : Program} {FT : Nat → FTy}
section
variable {E : Fr} {w : World} {g : Nat → Option Blk} {k : Nat} {ρ : Nat → Option Loc} {own : Nat → Prop}
/-- A row, one's own or one that stays, and where it lies. -/
theorem src_at {o : Bool} {h off len : Nat} {el : TypeId} {l m : List D} {x : Value} (hr : HRel P E g (fun h => h < k) w.heap ρ own) (hs : Sl P (cx E w.heap own ρ) el false h off len x) (hg : g h = some (.row o l)) (hp : pieceOf l off len = some m) (hpos : 0 < len) :
    m.length = len ∧ ∃ vb voff vc cv tv, x = .slice (some ⟨vb, voff, none⟩) len vc ∧ len ≤ vc ∧ vc ≤ maxLen ∧ w.heap[vb]? = some (.cells cv tv (0, 0)) ∧ voff + len * tySize P (tyOf P el) ≤ cv.size ∧
      (∀ h' l', g h' = some (.row true l') → h' ≠ h → ∀ L' b, ρ h' = some L' → L'.blk = some b → own b → vb ≠ b) ∧
      ∀ (i : Nat) (d : D), m[i]? = some d → RD P w.heap (cx E w.heap own ρ).S (tyOf P el) d (seg cv.toList (voff + i * tySize P (tyOf P el)) (tySize P (tyOf P el))) := by
  obtain ⟨L, k1, k2, k3, k4⟩ := hs
  have k1 : ρ h = some L := k1
  obtain ⟨p1, p2, p3⟩ := pieceOf.out hp
  refine ⟨p2, ?_⟩
  rcases k4 with ⟨q1, _⟩ | ⟨_, ad, cap, q2, q3, q4, q5⟩
  · cases q1
  · rcases q5 with q5 | ⟨b, r1, r2, r3⟩
    · omega
    · obtain ⟨L', t1, t2, t3⟩ := hr.blk h _ hg
      have t1 : ρ h = some L' := t1
      rw [k1] at t1; injection t1 with t1; subst t1
      rcases t3 with ⟨_, t3⟩ | ⟨b', c, te, u1, u2, u3, u4, u5, u6⟩
      · rw [r1] at t3; cases t3
      · rw [r1] at u1; injection u1 with u1; subst u1
        rw [k3] at u6
        subst r2
        have hmul : (off + cap) * tySize P (tyOf P el) = off * tySize P (tyOf P el) + cap * tySize P (tyOf P el) := Nat.add_mul _ _ _
        have hls : len * tySize P (tyOf P el) ≤ cap * tySize P (tyOf P el) := Nat.mul_le_mul_right _ q3
        refine ⟨b, _, cap, c, te, q2, q3, q4, u2, by omega, fun h' l' g1 g2 L2 b2 g3 g4 g5 e => ?_, fun i d hd => ?_⟩
        · subst e
          cases o with
          | true => exact g2 (hr.apart h' h _ _ L2 L b g1 hg rfl rfl g3 k1 g4 r1)
          | false =>
            simp only [Bool.false_eq_true, if_false] at u5
            exact u5.2.1 g5
        · obtain ⟨_, hl'⟩ := p3 i d hd
          have := u6 (off + i) d hl'
          rw [Nat.add_mul, ← Nat.add_assoc] at this
          exact this
theorem hputs_one {k : Nat} {b : Blk} : hputs [] (dead none ++ [(k, b)]) = [(k, b)] := by simp [dead, hputs, hput]

theorem ins_snd {f : Nat} {el : TypeId} {vs : List V} {v : V} {u : Hp} {k' : Nat} (h1 : (FT f).cps = []) (h2 : (FT f).rs = [.sl el]) (h3 : (FT f).ps = [.sl el, .i .i64, .sl el]) (sp : InsSpec P f el (tySize P (tyOf P el))) (h : insV g k vs = some (v, u, k'))
    (hheap : HRel P E g (fun h => h < k) w.heap ρ own) (hbs : E.B ≤ w.heap.size) (hbelow : Below E.B E.w0 w) {args : Array Value} (hargs : argsVT P (cx E w.heap own ρ) ((FT f).ps ++ (FT f).cps) vs args.toList) :
    Calls P f args w (fun e w' => ∃ x, e = .returned x ∧ ∃ ρ' own', CallRes P FT f E g k w ρ own v u k' x w' ρ' own') := by
  rw [h1, h3, List.append_nil] at hargs
  have hne' : ¬ k < k := by omega
  have hen := rel_enter (P := P) el hheap hbs hbelow
  -- a row that is new
  have grow : ∀ (base : Option Addr) (cap i : Nat) (x y : List D) (n m : Nat) (vb voff vc : Nat) (cv : Array Value) (tv : TypeId) (olds : List Value) (dh : Option Nat), x.length = n → y.length = m → i ≤ n → 0 < m → n ≤ cap → cap < n + m → n + m ≤ mostLen → m ≤ vc → vc ≤ maxLen → olds.length = n * tySize P (tyOf P el) →
      (∀ (t : Nat) (d : D), x[t]? = some d → RD P w.heap (cx E w.heap own ρ).S (tyOf P el) d (seg olds (t * tySize P (tyOf P el)) (tySize P (tyOf P el)))) →
      (n = 0 ∨ ∃ b off c te, base = some ⟨b, off, none⟩ ∧ w.heap[b]? = some (.cells c te (0, 0)) ∧ off + n * tySize P (tyOf P el) ≤ c.size ∧ olds = seg c.toList off (n * tySize P (tyOf P el))) → (base = none → n = 0 ∧ cap = 0) →
      w.heap[vb]? = some (.cells cv tv (0, 0)) → voff + m * tySize P (tyOf P el) ≤ cv.size → (∀ (t : Nat) (d : D), y[t]? = some d → RD P w.heap (cx E w.heap own ρ).S (tyOf P el) d (seg cv.toList (voff + t * tySize P (tyOf P el)) (tySize P (tyOf P el)))) →
      Calls P f #[.slice base n cap, .int .i64 i, .slice (some ⟨vb, voff, none⟩) m vc] w (fun e w' => ∃ x1, e = .returned x1 ∧ ∃ ρ' own', CallRes P FT f E g k w ρ own (.sl false k 0 (n + m)) (hputs [] (dead dh ++ [(k, .row true (insAt x i y))])) (k + 1) x1 w' ρ' own') := by
    intro base cap i x y n m vb voff vc cv tv olds dh a1 a2 a3 a4 a5 a6 a7 a8 a9 a10 a11 a12 a13 a14 a15 a16
    generalize hszd : tySize P (tyOf P el) = sz at *
    have o1 : ∀ z ∈ olds, z.oneCell' = true := one_of_parts (n := n) (sz := sz) a10 fun t ht => (a11 t x[t] (List.getElem?_eq_getElem (by omega))).one
    have o2 : ∀ z ∈ seg cv.toList voff (m * sz), z.oneCell' = true := one_of_parts (n := m) (sz := sz) (seg_length (by simpa using a15)) fun t ht => by
      rw [seg_seg (mul_part ht)]
      exact (a16 t y[t] (List.getElem?_eq_getElem (by omega))).one
    refine (sp.grow base n cap i vb voff m vc olds cv tv w a14 a5 a6 a7 a10 a15 a4 a8 a9 a3 a12 a13 o1 o2).mono ?_
    rintro e w' ⟨cap', r, rfl, b1, b2, b3, b4, b5, b6, b7, b8⟩
    have hil : (insAt x i y).length = n + m := by rw [insAt_length (by omega)]; omega
    have hb2 := hen.newRow (w' := w') (r := r) (e := el) (ds := insAt x i y) (cap := cap') (dh := dh) (d := 0) b4 b3 hne' (by rw [hszd]; exact b5) (by omega) b2 (fun t dd hdd => by
      rw [hszd]
      show RD P w.heap (cx E w.heap own ρ).S (tyOf P el) dd _
      have ht := (List.getElem?_eq_some_iff.1 hdd).1
      rw [getElem?_insAt (by omega)] at hdd
      by_cases t1 : t < i
      · rw [if_pos t1] at hdd
        have := seg_mono b6 t1 rfl
        simp only [Nat.zero_add] at this
        rw [this]
        exact a11 t dd hdd
      · rw [if_neg t1] at hdd
        by_cases t2 : t < i + y.length
        · rw [if_pos t2] at hdd
          have e1 : t * sz = i * sz + (t - i) * sz := by rw [← Nat.add_mul]; congr 1; omega
          rw [e1, seg_mono b7 (show t - i < m by omega) rfl]
          exact a16 _ dd hdd
        · rw [if_neg t2] at hdd
          have e1 : t * sz = (i + m) * sz + (t - (i + m)) * sz := by rw [← Nat.add_mul]; congr 1; omega
          have e2 : i * sz + (t - (i + m)) * sz = (t - y.length) * sz := by rw [← Nat.add_mul]; congr 1; omega
          rw [e1, seg_mono b8 (show t - (i + m) < n - i by omega) rfl, e2]
          exact a11 _ dd hdd) (by simp) rfl
    rw [hil] at hb2
    have hv : VT P (cx E w'.heap _ _) _ _ _ := hb2.env 0
    simp only [St.after] at hb2
    exact ⟨_, rfl, _, _, callRes_of hb2 (by
      rw [h2]
      simpa [St.after, putO, put, look, Act.put, resT] using hv)⟩
  unfold insV at h
  split at h
  · rename_i a hh off len i h' off' m
    split at h
    · rename_i hcnd
      obtain ⟨c1, c2, c3, c4, c5⟩ := hcnd
      split at h
      · rename_i l o l' hg hg'
        split at h
        · rename_i x y hx hy
          injection h with h; injection h with e1 e2; injection e2 with e2 e3; subst e1 e2 e3
          obtain ⟨x1, x2, x3, rfl, v1, v2, v3⟩ := args3 hargs
          obtain ⟨_, rfl, _⟩ := v2.int
          obtain ⟨el', e1, hs⟩ := (v1.vs rfl).sl
          injection e1 with e1; subst e1
          obtain ⟨el', e1, hs'⟩ := (v3.vs rfl).sl
          injection e1 with e1; subst e1
          obtain ⟨L, q2, hlt, hml, hc⟩ := row_at hheap hs hg hx
          obtain ⟨hyl, vb, voff, vc, cv, tv, rfl, y1, y2, y3, y4, y5, y6⟩ := src_at hheap hs' hg' hy c3
          have hne : hh ≠ k := by omega
          obtain ⟨i, rfl⟩ := Int.eq_ofNat_of_zero_le c1
          have c2 : i ≤ len := by omega
          rw [Int.toNat_natCast]
          rw [← hputs_dead hne]
          rcases hc with ⟨rfl, rfl, rfl⟩ | ⟨rfl, ad, cap, rfl, d1, d2, d3⟩
          · obtain rfl : x = [] := List.eq_nil_of_length_eq_zero hml
            obtain rfl : i = 0 := by omega
            exact grow none 0 0 [] y 0 m vb voff vc cv tv [] (some hh) rfl hyl (by omega) c3 (by omega) (by omega) c4 y1 y2 (by simp) (fun t d hd => by simp at hd) (.inl rfl) (fun _ => ⟨rfl, rfl⟩) y3 y4 y6
          · rcases d3 with d3 | ⟨b, c, te, r1, rfl, r3, r4, r5, r6, r7⟩
            · obtain rfl : cap = 0 := d3
              obtain rfl : len = 0 := by omega
              obtain rfl : x = [] := List.eq_nil_of_length_eq_zero hml
              obtain rfl : i = 0 := by omega
              exact grow (some ad) 0 0 [] y 0 m vb voff vc cv tv [] (some hh) rfl hyl (by omega) c3 (by omega) (by omega) c4 y1 y2 (by simp) (fun t d hd => by simp at hd) (.inl rfl) (fun e => by cases e) y3 y4 y6
            · have hmul : (off + cap) * tySize P (tyOf P el) = off * tySize P (tyOf P el) + cap * tySize P (tyOf P el) := Nat.add_mul _ _ _
              have hls : len * tySize P (tyOf P el) ≤ cap * tySize P (tyOf P el) := Nat.mul_le_mul_right _ d1
              by_cases hroom : len + m ≤ cap
              · have hone : ∀ z ∈ seg c.toList (L.off + off * tySize P (tyOf P el)) (len * tySize P (tyOf P el)), z.oneCell' = true := one_of_parts (n := len) (sz := tySize P (tyOf P el)) (seg_length (by simp only [Array.length_toList]; omega)) fun t ht => by
                  rw [seg_seg (mul_part ht)]
                  exact (r7 t x[t] (List.getElem?_eq_getElem (by omega))).one
                have hone2 : ∀ z ∈ seg cv.toList voff (m * tySize P (tyOf P el)), z.oneCell' = true := one_of_parts (n := m) (sz := tySize P (tyOf P el)) (seg_length (by simpa using y4)) fun t ht => by
                  rw [seg_seg (mul_part ht)]
                  exact (y6 t y[t] (List.getElem?_eq_getElem (by omega))).one
                refine (sp.room b _ len cap i vb voff m vc c te cv tv w r4 y3 (y5 hh l hg c5 L b q2 r1 r6) hroom d2 (by omega) y4 c3 y1 y2 c2 hone hone2).mono ?_
                rintro e w' ⟨rfl, r, s1, s2, s3, s4, s5, s6⟩
                have hil : (insAt x i y).length = len + m := by rw [insAt_length (by omega)]; omega
                have hb2 := hen.rerow (h := hh) (L := L) (l := l) (b := b) (off := off) (cap := cap) (el := el) (te := te) (c := c) (r := r) (w' := w') (ds := insAt x i y) (sz := tySize P (tyOf P el)) (d := 0) hne' hg q2 r1 r4 r5 r6 rfl s1 s2 s3 (by omega) r3 d2
                  (fun t dd hdd => by
                    show RD P w.heap (cx E w.heap own ρ).S (tyOf P el) dd _
                    have ht := (List.getElem?_eq_some_iff.1 hdd).1
                    rw [getElem?_insAt (by omega)] at hdd
                    generalize tySize P (tyOf P el) = sz at *
                    by_cases t1 : t < i
                    · rw [if_pos t1] at hdd
                      rw [seg_mono s4 t1 rfl]
                      exact r7 t dd hdd
                    · rw [if_neg t1] at hdd
                      by_cases t2 : t < i + y.length
                      · rw [if_pos t2] at hdd
                        have e1 : L.off + off * sz + t * sz = L.off + off * sz + i * sz + (t - i) * sz := by
                          have : t * sz = i * sz + (t - i) * sz := by rw [← Nat.add_mul]; congr 1; omega
                          omega
                        rw [e1, seg_mono s5 (show t - i < m by omega) rfl]
                        exact y6 _ dd hdd
                      · rw [if_neg t2] at hdd
                        have e1 : L.off + off * sz + t * sz = L.off + off * sz + (i + m) * sz + (t - (i + m)) * sz := by
                          have : t * sz = (i + m) * sz + (t - (i + m)) * sz := by rw [← Nat.add_mul]; congr 1; omega
                          omega
                        have e2 : L.off + off * sz + i * sz + (t - (i + m)) * sz = L.off + off * sz + (t - y.length) * sz := by
                          have : i * sz + (t - (i + m)) * sz = (t - y.length) * sz := by rw [← Nat.add_mul]; congr 1; omega
                          omega
                        rw [e1, seg_mono s6 (show t - (i + m) < len - i by omega) rfl, e2]
                        exact r7 _ dd hdd) (by simp) rfl
                rw [hil] at hb2
                have hv : VT P (cx E w'.heap _ _) _ _ _ := hb2.env 0
                simp only [St.after] at hb2
                exact ⟨_, rfl, _, _, callRes_of hb2 (by
                  rw [h2]
                  simpa [St.after, putO, put, look, Act.put, resT] using hv)⟩
              · refine grow _ cap i x y len m vb voff vc cv tv (seg c.toList (L.off + off * tySize P (tyOf P el)) (len * tySize P (tyOf P el))) (some hh) hml hyl c2 c3 d1 (by omega) c4 y1 y2 (seg_length (by simp only [Array.length_toList]; omega)) (fun t d hd => ?_) (.inr ⟨b, _, c, te, rfl, r4, by omega, rfl⟩) (fun e => by cases e) y3 y4 y6
                rw [seg_seg (mul_part (by rw [← hml]; exact (List.getElem?_eq_some_iff.1 hd).1))]
                exact r7 t d hd
        · cases h
      · cases h
    · cases h
  · rename_i i h' off' m
    split at h
    · rename_i hcnd
      obtain ⟨c1, c3, c4⟩ := hcnd
      subst c1
      split at h
      · rename_i o l' hg'
        split at h
        · rename_i y hy
          injection h with h; injection h with e1 e2; injection e2 with e2 e3; subst e1 e2 e3
          obtain ⟨x1, x2, x3, rfl, v1, v2, v3⟩ := args3 hargs
          obtain ⟨_, rfl, _⟩ := v2.int
          obtain ⟨el', e1, hs⟩ := (v1.vs rfl).dsl
          injection e1 with e1; subst e1
          obtain ⟨el', e1, hs'⟩ := (v3.vs rfl).sl
          injection e1 with e1; subst e1
          obtain ⟨hyl, vb, voff, vc, cv, tv, rfl, y1, y2, y3, y4, y5, y6⟩ := src_at hheap hs' hg' hy c3
          obtain rfl : x1 = .slice none 0 0 := by
            rcases hs with ⟨_, _, hs⟩ | ⟨hs, _⟩
            · exact hs
            · cases hs
          have := grow none 0 0 [] y 0 m vb voff vc cv tv [] none rfl hyl (by omega) c3 (by omega) (by omega) (by omega) y1 y2 (by simp) (fun t d hd => by simp at hd) (.inl rfl) (fun _ => ⟨rfl, rfl⟩) y3 y4 y6
          rw [hputs_one] at this
          simpa [insAt] using this
        · cases h
      · cases h
    · cases h
  · cases h
theorem nat_snd {f : Nat} {nk : NK} {vs : List V} {v : V} {u : Hp} {k' : Nat} (sp : NatSnd P FT f nk) (h : natV nk g k vs = some (v, u, k'))
    (hheap : HRel P E g (fun h => h < k) w.heap ρ own) (hbs : E.B ≤ w.heap.size) (hbelow : Below E.B E.w0 w) {args : Array Value} (hargs : argsVT P (cx E w.heap own ρ) ((FT f).ps ++ (FT f).cps) vs args.toList) :
    Calls P f args w (fun e w' => ∃ x, e = .returned x ∧ ∃ ρ' own', CallRes P FT f E g k w ρ own v u k' x w' ρ' own') := by
  obtain ⟨el, h1, h2, h3⟩ := sp
  cases nk with
  | del => exact del_snd h1 h2 h3.1 h3.2 h hheap hbs hbelow hargs
  | ins => exact ins_snd h1 h2 h3.1 h3.2 h hheap hbs hbelow hargs
theorem nat_next {nk : NK} {vs : List V} {v : V} {u : Hp} {k' : Nat} (h : natV nk g k vs = some (v, u, k')) : k' = k + 1 := by
  cases nk with
  | del =>
    simp only [natV] at h
    unfold delV at h
    split at h
    · split at h
      · split at h
        · split at h
          · injection h with h; injection h with e1 e2; injection e2 with e2 e3; exact e3.symm
          · cases h
        · cases h
      · cases h
    · cases h
  | ins =>
    simp only [natV] at h
    unfold insV at h
    split at h
    · split at h
      · split at h
        · split at h
          · injection h with h; injection h with e1 e2; injection e2 with e2 e3; exact e3.symm
          · cases h
        · cases h
      · cases h
    · split at h
      · split at h
        · split at h
          · injection h with h; injection h with e1 e2; injection e2 with e2 e3; exact e3.symm
          · cases h
        · cases h
      · cases h
    · cases h
end
/-- What is to be shown of each function. -/
def FnOk (P : Program) (FT : Nat → FTy) (f : Nat) (kf : KF) : Prop := (kf.nat = none ∧ fnOk P FT f kf = true) ∨ ∃ nk, kf.nat = some nk ∧ NatSnd P FT f nk
end Go.Fw
namespace Go.Fw
open Go Go.RowKit
variable {P : Program} {FT : Nat → FTy} {kp : Nat → Option KF}

/-- What a call comes to, taken apart. -/
theorem call_out {n f : Nat} {vs : List V} {g : Nat → Option Blk} {k : Nat} {v : V} {u : Hp} {k' : Nat} (h : runF kp (n + 1) (.call f vs g k) = some (.val v u k')) :
    (∃ kf nk, kp f = some kf ∧ kf.nat = some nk ∧ natV nk g k vs = some (v, u, k')) ∨ ∃ kf o s rs s', kp f = some kf ∧ kf.nat = none ∧ runF kp n (.code kf.body { env := params 0 vs, hp := [], tl := g, base := k, next := k }) = some (.out o s) ∧ (o = .nrm ∨ o = .ret) ∧ resOf s kf.res = some rs ∧ canon [(0, resV rs)] s = some s' ∧ v = look s'.env 0 ∧ u = s'.hp ∧ k' = s'.next := by
  simp only [runF, step] at h
  split at h
  · cases h
  · rename_i kf hk
    split at h
    · rename_i nk hnk
      split at h
      · rename_i v1 u1 m1 hn
        injection h with h; injection h with e1 e2 e3; subst e1 e2 e3
        exact .inl ⟨kf, nk, hk, hnk, hn⟩
      · cases h
    · rename_i hnk
      right
      split at h
      · cases h
      · rename_i o s hne h1
        split at h
        · rename_i rs h2
          split at h
          · rename_i s' h3
            injection h with h; injection h with e1 e2 e3
            refine ⟨kf, o, s, rs, s', hk, hnk, h1, ?_, h2, h3, e1.symm, e2.symm, e3.symm⟩
            cases o with
            | nrm => exact .inl rfl
            | ret => exact .inr rfl
            | ext j => exact absurd rfl (hne j)
          · cases h
        · cases h
      · cases h
theorem canon_next {e : Env} {s s' : St} (h : canon e s = some s') : s.base ≤ s'.next := by
  simp only [canon] at h
  split at h
  · injection h with h; subst h; exact Nat.le_add_right _ _
  · cases h
theorem call_next {n f : Nat} {vs : List V} {g : Nat → Option Blk} {k : Nat} {v : V} {u : Hp} {k' : Nat} (h : runF kp n (.call f vs g k) = some (.val v u k')) : k ≤ k' := by
  cases n with
  | zero => simp [runF] at h
  | succ n =>
    rcases call_out h with ⟨_, _, _, _, hn⟩ | ⟨kf, o, s, rs, s', _, _, h1, _, _, h4, _, _, rfl⟩
    · rw [nat_next hn]; exact Nat.le_succ _
    have h5 := canon_next h4
    rw [((stays n).code _ _ _ _ h1).1] at h5
    exact h5

theorem call_snd (hok : ∀ f kf, kp f = some kf → FnOk P FT f kf) {n : Nat} (hcs : CallSnd P FT (runF kp n)) (hds : DataSnd P FT (runF kp n)) : CallSnd P FT (runF kp (n + 1)) := by
  refine ⟨hcs.1, ?_⟩
  intro f vs g k v u k' h E ρ own w args hft hheap hbs hbelow hargs
  rcases call_out h with ⟨kf, nk, hk, hnk, hnv⟩ | ⟨kf, o, s, rs, s', hk, hnk, h1, ho, h2, h3, rfl, rfl, rfl⟩
  · rcases hok f kf hk with ⟨e, _⟩ | ⟨nk', e, sp⟩
    · rw [hnk] at e; cases e
    · rw [hnk] at e; injection e with e; subst e
      exact nat_snd sp hnv hheap hbs hbelow hargs
  have hf : fnOk P FT f kf = true := by
    rcases hok f kf hk with ⟨_, e⟩ | ⟨nk', e, _⟩
    · exact e
    · rw [hnk] at e; cases e
  unfold fnOk at hf
  split at hf
  · rename_i fn hfn
    split at hf
    · rename_i c hb
      simp only [Bool.and_eq_true, decide_eq_true_eq] at hf
      obtain ⟨⟨⟨⟨hchk, hres⟩, hn⟩, hpar⟩, hlen⟩ := hf
      obtain ⟨a1, a2, a3⟩ := hargs
      have hsz : args.size = ((FT f).ps ++ (FT f).cps).length := by simpa using a2
      let E' : Fr := { E with w1 := w, ρ1 := ρ, own1 := own }
      have hltρ : ltρ k ρ = ρ := by
        funext h
        unfold ltρ
        split
        · rfl
        · rename_i hh
          cases hr : ρ h with
          | none => rfl
          | some L => exact absurd (hheap.fresh h L hr) hh
      have hr0 : RelN P E' (FT f).n (tysOf (FT f)) (fun h => h < k) { env := params 0 vs, hp := [], tl := g, base := k, next := k } { tmps := args ++ Array.replicate (fn.ntmps - args.size) undef, defers := [] } w := by
        refine ⟨⟨ρ, own, ?_⟩, ?_, rfl⟩
        · exact
            { heap := ⟨hheap.bnd, hheap.fresh, hheap.blk, hheap.apart⟩
              env := fun i => by
                show VT P (cx E w.heap own ρ) _ (look (params 0 vs) i) _
                rw [look_params, if_pos (Nat.zero_le _), Nat.sub_zero]
                by_cases hi : i < vs.length
                · have hi2 : i < ((FT f).ps ++ (FT f).cps).length := by rw [← a1]; exact hi
                  have hi3 : i < args.size := by rw [hsz]; exact hi2
                  have e1 : vs[i]? = some vs[i] := List.getElem?_eq_getElem hi
                  have e2 := List.getElem?_eq_getElem hi2
                  have e3 : args.toList[i]? = some args[i] := by simp [hi3]
                  have := parOk.get hpar i _ e2
                  rw [Nat.zero_add] at this
                  rw [this, e1]
                  have e4 : (args ++ Array.replicate (fn.ntmps - args.size) undef).getD i undef = args[i] := by
                    rw [Array.getD_eq_getD_getElem?, Array.getElem?_append_left hi3, Array.getElem?_eq_getElem hi3]; rfl
                  rw [e4]
                  exact a3 i _ _ _ e2 e1 e3
                · rw [List.getElem?_eq_none (by omega)]
                  exact .inl rfl
              tail := fun β _ h b _ _ h3 => h3
              le := Ctx.Le.refl _
              nd := rfl
              start := fun h b hh => by
                show BR P (cx E w.heap own (ltρ k ρ)) own h b
                rw [hltρ]
                exact hheap.blk h b hh
              dom := fun h L hL => hheap.fresh h L hL
              base := Nat.le_refl _
              below := hbelow
              bsize := hbs }
        · simp only [Array.size_append, Array.size_replicate]
          rw [hn]
          omega
      refine calls_of_wp hfn hb (wp_mono ((code_wp (E := E') (F := FT f) hcs hds (fun _ _ _ _ _ _ _ h => call_next h) hft n (Nat.le_succ n)).1 c kf.body _ o s _ w h1 hchk hr0) ?_)
      rintro e a' w' ⟨rfl, ⟨ρ', own', hb'⟩, hN', hd'⟩
      obtain ⟨x, hx, hvx⟩ := results_ok (P := P) (a := a') hb' hres h2
      obtain ⟨⟨ρ2, hb2⟩, eb, et⟩ := hb'.canon (tys' := fun i => if i = 0 then resT (FT f).rs else .o .no) (a' := { tmps := #[x], defers := [] }) (e := [(0, resV rs)]) (s' := s') (fun i => by
        by_cases hi : i = 0
        · subst hi; exact hvx
        · left
          simp only [look]
          rw [if_neg (fun e => hi e.symm)]) h3
      obtain ⟨sb, st⟩ := (stays n).code _ _ _ _ h1
      have eb' : s'.base = k := eb.trans sb
      have et' : s'.tl = g := et.trans st
      have hul : ∀ h, ulast s'.hp h = hlook s'.hp h := ulast_hlook hb2.nd
      have hR : ∃ x', Ending.returned x = .returned x' ∧ ∃ ρ' own', CallRes P FT f E g k w ρ own (look s'.env 0) s'.hp s'.next x' w' ρ' own' := by
        refine ⟨x, rfl, ρ2, own', ?_⟩
        exact
          { heap := by
              have hh := hb2.heap
              have e1 : s'.g = fun h => match ulast s'.hp h with | some b => some b | none => g h := by
                funext h
                simp only [St.g, hul, et']
                cases hlook s'.hp h <;> rfl
              rw [e1] at hh
              exact ⟨hh.bnd, hh.fresh, hh.blk, hh.apart⟩
            le := hb2.le
            below := hb2.below
            bsize := hb2.bsize
            val := by
              have hh := hb2.env 0
              exact hh
            tail := fun β hβ h b e1 e2 e3 => hb2.tail β (by rw [eb']; exact hβ) h b (by rw [← hul]; exact e1) (by rw [et']; exact e2) e3
            next := by have := hb2.base; rw [eb'] at this; exact this
            nd := hb2.nd }
      rcases ho with rfl | rfl
      · exact ⟨hd', x, hx, hR⟩
      · exact ⟨hd', x, hx, hR⟩
    · cases hf
  · cases hf
end Go.Fw
namespace Go.Fw
open Go Go.RowKit
variable {P : Program} {FT : Nat → FTy} {kp : Nat → Option KF}

theorem apart_nodup : ∀ (l : List Nat), apartHs l = nodup l
  | [] => rfl
  | a :: l => by simp only [apartHs, nodup, apart_nodup l]
theorem nodup_split : ∀ {l m : List Nat}, nodup (l ++ m) = true → nodup l = true ∧ nodup m = true ∧ ∀ x ∈ l, x ∉ m
  | [], m, h => ⟨rfl, h, fun x hx => by simp at hx⟩
  | a :: l, m, h => by
    rw [List.cons_append, nodup_cons] at h
    obtain ⟨h1, h2, h3⟩ := nodup_split h.2
    refine ⟨by rw [nodup_cons]; exact ⟨fun hh => h.1 (List.mem_append_left _ hh), h1⟩, h2, fun x hx => ?_⟩
    rcases List.mem_cons.1 hx with e | hx
    · subst e; exact fun hh => h.1 (List.mem_append_right _ hh)
    · exact h3 x hx
theorem hss_apart : ∀ {l : List V}, nodup (V.hss l) = true → (∀ (i : Nat) (v : V), l[i]? = some v → nodup v.hs = true) ∧ ∀ (i j : Nat) (v w : V), l[i]? = some v → l[j]? = some w → i ≠ j → ∀ x ∈ v.hs, x ∉ w.hs
  | [], _ => ⟨fun i v h => by simp at h, fun i j v w h => by simp at h⟩
  | a :: l, hn => by
    simp only [V.hss] at hn
    obtain ⟨h1, h2, h3⟩ := nodup_split hn
    obtain ⟨k1, k2⟩ := hss_apart h2
    refine ⟨fun i v hv => ?_, fun i j v w hv hw hij x hx => ?_⟩
    · cases i with
      | zero => simp at hv; subst hv; exact h1
      | succ i => exact k1 i v (by simpa using hv)
    · cases i with
      | zero =>
        cases j with
        | zero => exact absurd rfl hij
        | succ j =>
          simp at hv hw
          subst hv
          exact fun hh => h3 x hx (mem_hss hw hh)
      | succ i =>
        cases j with
        | zero =>
          simp at hv hw
          subst hw
          exact fun hh => h3 x hh (mem_hss hv hx)
        | succ j => exact k2 i j v w (by simpa using hv) (by simpa using hw) (by omega) x hx

variable (P) in
structure Adopted (C : Ctx) (own : Nat → Prop) (G : Nat → Option Blk) (hs : Nat → Prop) (ρ1 : Nat → Option Loc) (n0 n1 : Nat) (u : Hp) : Prop where
  le : n0 ≤ n1
  dom : ∀ h L, ρ1 h = some L → n0 ≤ h ∧ h < n1
  keys : ∀ h y, ulast u h = some y → n0 ≤ h ∧ h < n1
  blk : ∀ h y, ulast u h = some y → BR P (C.withρ ρ1) own h y
  orig : ∀ h L b, ρ1 h = some L → L.blk = some b → ∃ h0 L0 l, hs h0 ∧ C.ρ h0 = some L0 ∧ L0.blk = some b ∧ G h0 = some (.row true l)
  inj : ∀ h h' L L' b, ρ1 h = some L → ρ1 h' = some L' → L.blk = some b → L'.blk = some b → h = h'
variable (P) in
def AD (C : Ctx) (own : Nat → Prop) (G : Nat → Option Blk) (x : D) (T : Ty × List Value) (hs : Nat → Prop) : Prop :=
  ∀ n0, ∃ ρ1, VR P (C.withρ ρ1) T.1 (adopt n0 x).1 T.2 ∧ Adopted P C own G hs ρ1 n0 (adopt n0 x).2.2 (adopt n0 x).2.1
def noρ : Nat → Option Loc := fun _ => none
theorem Adopted.empty {C : Ctx} {own : Nat → Prop} {G : Nat → Option Blk} {hs : Nat → Prop} {n : Nat} : Adopted P C own G hs noρ n n [] :=
  ⟨Nat.le_refl _, fun h L e => (by cases e), fun h y e => (by cases e), fun h y e => (by cases e), fun h L b e => (by cases e), fun h h' L L' b e => (by cases e)⟩

section
variable {C : Ctx} {own : Nat → Prop} {G : Nat → Option Blk}
theorem AD.list (hap : ∀ (h h' : Nat) (l l' : List D) (L L' : Loc) (b : Nat), G h = some (.row true l) → G h' = some (.row true l') → C.ρ h = some L → C.ρ h' = some L' → L.blk = some b → L'.blk = some b → h = h') :
    ∀ (ds : List D) (T : Nat → Ty × List Value) (H : Nat → Nat → Prop), (∀ (i : Nat) (d : D), ds[i]? = some d → AD P C own G d (T i) (H i)) → (∀ i j x, i ≠ j → i < ds.length → j < ds.length → H i x → ¬ H j x) →
      ∀ n0, ∃ ρ1, (∀ (i : Nat) (v : V), (adopts n0 ds).1[i]? = some v → VR P (C.withρ ρ1) (T i).1 v (T i).2) ∧ (adopts n0 ds).1.length = ds.length ∧ Adopted P C own G (fun x => ∃ i, i < ds.length ∧ H i x) ρ1 n0 (adopts n0 ds).2.2 (adopts n0 ds).2.1
  | [], T, H, _, _, n0 => ⟨noρ, fun i v h => by simp [adopts] at h, rfl, .empty⟩
  | d :: ds, T, H, hd, hdis, n0 => by
    obtain ⟨ρ1, v1, a1⟩ := hd 0 d rfl n0
    obtain ⟨ρ2, v2, l2, a2⟩ := AD.list hap ds (fun i => T (i + 1)) (fun i => H (i + 1)) (fun i d hdd => hd (i + 1) d (by simpa using hdd)) (fun i j x hij hi hj => hdis (i + 1) (j + 1) x (by omega) (by simpa using hi) (by simpa using hj)) (adopt n0 d).2.2
    let m := (adopt n0 d).2.2
    let ρ3 : Nat → Option Loc := fun h => if h < m then ρ1 h else ρ2 h
    have e1 : ∀ h L, ρ1 h = some L → ρ3 h = some L := fun h L e => by
      simp only [ρ3]; rw [if_pos (a1.dom h L e).2]; exact e
    have e2 : ∀ h L, ρ2 h = some L → ρ3 h = some L := fun h L e => by
      have := (a2.dom h L e).1
      simp only [ρ3]; rw [if_neg (by simp only [m]; omega)]; exact e
    have le1 : (C.withρ ρ1).Le (C.withρ ρ3) := ⟨fun _ h => h, fun _ h => h, fun _ _ => rfl, fun _ _ => rfl, e1, rfl⟩
    have le2 : (C.withρ ρ2).Le (C.withρ ρ3) := ⟨fun _ h => h, fun _ h => h, fun _ _ => rfl, fun _ _ => rfl, e2, rfl⟩
    have ecase : ∀ h L, ρ3 h = some L → (h < m ∧ ρ1 h = some L) ∨ (¬ h < m ∧ ρ2 h = some L) := fun h L e => by
      simp only [ρ3] at e
      split at e
      · rename_i hh; exact .inl ⟨hh, e⟩
      · rename_i hh; exact .inr ⟨hh, e⟩
    have cross : ∀ h h' L L' b, ρ1 h = some L → ρ2 h' = some L' → L.blk = some b → L'.blk = some b → False := by
      intro h h' L L' b x1 x2 x3 x4
      obtain ⟨h0, L0, l0, g1, g2, g3, g4⟩ := a1.orig h L b x1 x3
      obtain ⟨h0', L0', l0', ⟨i, hi, g1'⟩, g2', g3', g4'⟩ := a2.orig h' L' b x2 x4
      have := hap h0 h0' l0 l0' L0 L0' b g4 g4' g2 g2' g3 g3'
      subst this
      exact hdis 0 (i + 1) h0 (by omega) (by simp) (by simpa using hi) g1 g1'
    refine ⟨ρ3, fun i v hv => ?_, by simp [adopts, l2], ?_⟩
    · cases i with
      | zero => simp [adopts] at hv; subst hv; exact v1.mono le1
      | succ i => exact (v2 i v (by simpa [adopts] using hv)).mono le2
    · simp only [adopts]
      exact
        { le := Nat.le_trans a1.le a2.le
          dom := fun h L e => by
            rcases ecase h L e with ⟨_, e⟩ | ⟨_, e⟩
            · have := a1.dom h L e; exact ⟨this.1, Nat.lt_of_lt_of_le this.2 a2.le⟩
            · have := a2.dom h L e; exact ⟨Nat.le_trans a1.le this.1, this.2⟩
          keys := fun h y e => by
            rw [ulast_append] at e
            split at e
            · rename_i x hx
              have := a2.keys h x hx; exact ⟨Nat.le_trans a1.le this.1, this.2⟩
            · have := a1.keys h y e; exact ⟨this.1, Nat.lt_of_lt_of_le this.2 a2.le⟩
          blk := fun h y e => by
            rw [ulast_append] at e
            split at e
            · rename_i x hx
              injection e with e; subst e
              exact (a2.blk h x hx).lessρ (ρ' := ρ3) e2
            · exact (a1.blk h y e).lessρ (ρ' := ρ3) e1
          orig := fun h L b e eb => by
            rcases ecase h L e with ⟨_, e⟩ | ⟨_, e⟩
            · obtain ⟨h0, L0, l0, g1, g2⟩ := a1.orig h L b e eb
              exact ⟨h0, L0, l0, ⟨0, by simp, g1⟩, g2⟩
            · obtain ⟨h0, L0, l0, ⟨i, hi, g1⟩, g2⟩ := a2.orig h L b e eb
              exact ⟨h0, L0, l0, ⟨i + 1, by simpa using hi, g1⟩, g2⟩
          inj := fun h h' L L' b e e' eb eb' => by
            rcases ecase h L e with ⟨_, e⟩ | ⟨_, e⟩ <;> rcases ecase h' L' e' with ⟨_, e'⟩ | ⟨_, e'⟩
            · exact a1.inj h h' L L' b e e' eb eb'
            · exact (cross h h' L L' b e e' eb eb').elim
            · exact (cross h' h L' L b e' e eb' eb).elim
            · exact a2.inj h h' L L' b e e' eb eb' }

/-- Parts, joined. -/
theorem VR.struct_of {t : TypeId} {fs : Array Field} {vs : List V} {cs : List Value} (h1 : P.underlying t = some (.struct fs)) (h0 : StructOk P t fs) (h2 : cs.length = P.cellsOf t) (h3 : vs.length = fs.size)
    (h : ∀ (i : Nat) (v : V), vs[i]? = some v → VR P C (match fs[i]? with | some f => tyOf P f.type | none => .no) v (match fs[i]? with | some f => seg cs f.offset (tySize P (tyOf P f.type)) | none => [])) : VR P C (.ag t) (.agg vs) cs := by
  refine .struct h1 h0 h2 h3 (fun i f v hf hv => ?_)
  have := h i v hv
  rw [hf] at this
  exact this
/-- One row of its own. -/
theorem AD.row {e : TypeId} {nl : Bool} {m : List D} {x : Value} {hs : Nat → Prop} (hx : ∃ L : Loc, L.row = true ∧ L.ty = e ∧ (∀ ρ : Nat → Option Loc, ∀ n, ρ n = some L → Sl P (C.withρ ρ) e nl n 0 m.length x ∧ BR P (C.withρ ρ) own n (.row true m)) ∧ (∀ b, L.blk = some b → ∃ h0 L0 l, hs h0 ∧ C.ρ h0 = some L0 ∧ L0.blk = some b ∧ G h0 = some (.row true l))) :
    (nl && m.isEmpty) = false → AD P C own G (.sl nl m) (.sl e, [x]) hs := by
  intro hne n0
  obtain ⟨L, _, _, k3, k4⟩ := hx
  let ρ1 : Nat → Option Loc := fun h => if h = n0 then some L else none
  have e0 : ρ1 n0 = some L := by simp [ρ1]
  have ec : ∀ h L', ρ1 h = some L' → h = n0 ∧ L' = L := fun h L' e => by
    simp only [ρ1] at e
    split at e
    · rename_i hh; injection e with e; exact ⟨hh, e.symm⟩
    · cases e
  have eu : ∀ h y, ulast [(n0, Blk.row true m)] h = some y → h = n0 ∧ y = .row true m := fun h y e => by
    simp only [ulast] at e
    split at e
    · rename_i hh; injection e with e; exact ⟨hh.symm, e.symm⟩
    · cases e
  have ea : adopt n0 (.sl nl m) = (.sl nl n0 0 m.length, [(n0, .row true m)], n0 + 1) := by simp only [adopt]; rw [hne]; rfl
  rw [ea]
  refine ⟨ρ1, .sl (k3 ρ1 n0 e0).1, ?_⟩
  exact
    { le := Nat.le_succ _
      dom := fun h L' e => by obtain ⟨rfl, _⟩ := ec h L' e; exact ⟨Nat.le_refl _, Nat.lt_succ_self _⟩
      keys := fun h y e => by obtain ⟨rfl, _⟩ := eu h y e; exact ⟨Nat.le_refl _, Nat.lt_succ_self _⟩
      blk := fun h y e => by obtain ⟨rfl, rfl⟩ := eu h y e; exact (k3 ρ1 h e0).2
      orig := fun h L' b e eb => by obtain ⟨rfl, rfl⟩ := ec h L' e; exact k4 b eb
      inj := fun h h' L1 L2 b e e' _ _ => by rw [(ec h L1 e).1, (ec h' L2 e').1] }
theorem AD.nil {e : TypeId} {hs : Nat → Prop} : AD P C own G (.sl true []) (.sl e, [.slice none 0 0]) hs :=
  fun n0 => ⟨noρ, .d .nil rfl, .empty⟩

/-- Data without memory. -/
theorem frees_get : ∀ {l : List D}, D.frees l = true → ∀ (i : Nat) (d : D), l[i]? = some d → d.free = true
  | [], _, i, d, h => by simp at h
  | x :: l, h, i, d, hd => by
    simp only [D.frees, Bool.and_eq_true] at h
    cases i with
    | zero => simp at hd; subst hd; exact h.1
    | succ i => exact frees_get h.2 i d (by simpa using hd)
theorem AD.free (hap : ∀ (h h' : Nat) (l l' : List D) (L L' : Loc) (b : Nat), G h = some (.row true l) → G h' = some (.row true l') → C.ρ h = some L → C.ρ h' = some L' → L.blk = some b → L'.blk = some b → h = h')
    {ty : Ty} {x : D} {cs : List Value} (h : RD P C.H C.S ty x cs) : x.free = true → AD P C own G x (ty, cs) (fun _ => False) := by
  induction h with
  | int h => exact fun _ n0 => ⟨noρ, .int h, .empty⟩
  | bool => exact fun _ n0 => ⟨noρ, .bool, .empty⟩
  | str h => exact fun _ n0 => ⟨noρ, .d (.str h) rfl, .empty⟩
  | @struct t fs ds cs h1 h0 h2 h3 h4 ih =>
    intro hf n0
    simp only [adopt]
    split
    · exact ⟨noρ, .d (.struct h1 h0 h2 h3 h4) rfl, .empty⟩
    · obtain ⟨ρ1, k1, k2, k3⟩ := AD.list hap ds (fun i => (match fs[i]? with | some f => tyOf P f.type | none => .no, match fs[i]? with | some f => seg cs f.offset (tySize P (tyOf P f.type)) | none => [])) (fun _ _ => False) (fun i d hd => by
          have hi : i < fs.size := by rw [← h3]; exact (List.getElem?_eq_some_iff.1 hd).1
          have hfi : fs[i]? = some fs[i] := by simp [hi]
          have := ih i _ d hfi hd (frees_get hf i d hd)
          rw [hfi]
          exact this) (fun i j x _ _ _ h => h.elim) n0
      refine ⟨ρ1, VR.struct_of h1 h0 h2 (by rw [k2, h3]) k1, { k3 with orig := fun h L b e eb => ?_ }⟩
      obtain ⟨_, _, _, ⟨_, _, hh⟩, _⟩ := k3.orig h L b e eb
      exact hh.elim
  | @array t n e ds cs h1 h0 h2 h3 h4 ih =>
    intro hf n0
    simp only [adopt]
    split
    · exact ⟨noρ, .d (.array h1 h0 h2 h3 h4) rfl, .empty⟩
    · obtain ⟨ρ1, k1, k2, k3⟩ := AD.list hap ds (fun i => (tyOf P e, seg cs (i * tySize P (tyOf P e)) (tySize P (tyOf P e)))) (fun _ _ => False) (fun i d hd => ih i d hd (frees_get hf i d hd)) (fun i j x _ _ _ h => h.elim) n0
      refine ⟨ρ1, .array h1 h0 h2 (by rw [k2, h3]) (fun i v hv => k1 i v hv), { k3 with orig := fun h L b e eb => ?_ }⟩
      obtain ⟨_, _, _, ⟨_, _, hh⟩, _⟩ := k3.orig h L b e eb
      exact hh.elim
  | nil => exact fun _ => .nil
  | slice => intro hf; simp [D.free] at hf
end
end Go.Fw
namespace Go.Fw
open Go Go.RowKit
variable {P : Program} {FT : Nat → FTy} {kp : Nat → Option KF}
section
variable {C : Ctx} {own : Nat → Prop} {G : Nat → Option Blk}
theorem Adopted.hs {hs hs' : Nat → Prop} (h : ∀ x, hs x → hs' x) {ρ1 : Nat → Option Loc} {n0 n1 : Nat} {u : Hp} (a : Adopted P C own G hs ρ1 n0 n1 u) : Adopted P C own G hs' ρ1 n0 n1 u :=
  ⟨a.le, a.dom, a.keys, a.blk, fun x L b e eb => by
      obtain ⟨h0, L0, l, k1, k2⟩ := a.orig x L b e eb
      exact ⟨h0, L0, l, h _ k1, k2⟩, a.inj⟩
theorem AD.hs {hs hs' : Nat → Prop} (h : ∀ x, hs x → hs' x) {x : D} {T : Ty × List Value} (a : AD P C own G x T hs) : AD P C own G x T hs' := fun n0 => by
  obtain ⟨ρ1, k1, k2⟩ := a n0
  exact ⟨ρ1, k1, k2.hs h⟩
theorem ownAlls_get : ∀ {l : List V}, ownAlls G l = true → ∀ (i : Nat) (v : V), l[i]? = some v → ownAll G v = true
  | [], _, i, v, h => by simp at h
  | x :: l, h, i, v, hv => by
    simp only [ownAlls, Bool.and_eq_true] at h
    cases i with
    | zero => simp at hv; subst hv; exact h.1
    | succ i => exact ownAlls_get h.2 i v (by simpa using hv)
theorem AD.slice (hG : ∀ h b, G h = some b → BR P C own h b) {e : TypeId} {nl : Bool} {h off len : Nat} {x : Value} {l m : List D} (hs : Sl P C e nl h off len x) (hg : G h = some (.row true l)) (hp : pieceOf l off len = some m) : AD P C own G (.sl nl m) (.sl e, [x]) (fun y => y = h) := by
  obtain ⟨q1, q2, q3⟩ := pieceOf.out hp
  obtain ⟨L, k1, k2, k3, k4⟩ := hs
  rcases k4 with ⟨rfl, h0, rfl⟩ | ⟨rfl, a, cap, rfl, r1, r2, r3⟩
  · have : m = [] := List.eq_nil_of_length_eq_zero (by omega)
    subst this
    exact .nil
  · subst q2
    rcases r3 with r3 | ⟨b, r3, r4, r5⟩
    · have : m = [] := List.eq_nil_of_length_eq_zero (by omega)
      subst this
      exact .row ⟨{ blk := none, row := true, off := 0, size := 0, ty := e }, rfl, rfl, fun ρ n hρ => ⟨⟨_, hρ, rfl, rfl, .inr ⟨rfl, a, cap, rfl, r1, r2, .inl r3⟩⟩, ⟨_, hρ, rfl, .inl ⟨rfl, rfl⟩⟩⟩, fun b e => by cases e⟩ rfl
    · refine .row ⟨{ L with off := L.off + off * tySize P (tyOf P e) }, k2, k3, fun ρ n hρ => ⟨⟨_, hρ, k2, k3, .inr ⟨rfl, a, cap, rfl, r1, r2, .inr ⟨b, r3, ?_, ?_⟩⟩⟩, ?_⟩, fun b' e' => ⟨h, L, l, rfl, k1, e', hg⟩⟩ rfl
      · simp [r4]
      · simp only [Nat.zero_add]
        rw [Nat.add_mul] at r5
        omega
      · obtain ⟨L2, j1, j2, j3⟩ := hG h _ hg
        rw [k1] at j1; injection j1 with j1; subst j1
        rcases j3 with ⟨_, j3⟩ | ⟨b', c, te, i1, i2, i3, i4, i5, i6⟩
        · rw [r3] at j3; cases j3
        · rw [r3] at i1; injection i1 with i1; subst i1
          refine ⟨_, hρ, k2, .inr ⟨b, c, te, r3, i2, i3, ?_, i5, fun i d hd => ?_⟩⟩
          · simp only
            rw [k3, i3]
            rw [Nat.add_mul] at r5
            have : m.length * tySize P (tyOf P e) ≤ cap * tySize P (tyOf P e) := Nat.mul_le_mul_right _ r1
            omega
          · simp only
            have hh := i6 (off + i) d (q3 i d hd).2
            rw [Nat.add_mul, ← Nat.add_assoc, k3] at hh
            rw [k3]
            exact hh

mutual
theorem adopt_V (hG : ∀ h b, G h = some b → BR P C own h b) (hap : ∀ (h h' : Nat) (l l' : List D) (L L' : Loc) (b : Nat), G h = some (.row true l) → G h' = some (.row true l') → C.ρ h = some L → C.ρ h' = some L' → L.blk = some b → L'.blk = some b → h = h') :
    ∀ (v : V) {d : D} {ty : Ty} {cs : List Value}, ownAll G v = true → toD G v = some d → VR P C ty v cs → nodup v.hs = true → AD P C own G d (ty, cs) (fun x => x ∈ v.hs)
  | .int k n, d, ty, cs, _, hd, hv, _ => by
    simp only [toD] at hd; injection hd with hd; subst hd
    cases hv with
    | int h => exact fun n0 => ⟨noρ, .int h, .empty⟩
  | .bool b, d, ty, cs, _, hd, hv, _ => by
    simp only [toD] at hd; injection hd with hd; subst hd
    cases hv with
    | bool => exact fun n0 => ⟨noρ, .bool, .empty⟩
  | .d x, d, ty, cs, ho, hd, hv, _ => by
    simp only [toD] at hd; injection hd with hd; subst hd
    cases hv with
    | d h _ => exact (AD.free hap h ho).hs (fun x h => h.elim)
  | .sl nl h off len, d, ty, cs, ho, hd, hv, _ => by
    simp only [ownAll] at ho
    split at ho
    · rename_i l hg
      simp only [toD, hg] at hd
      split at hd
      · rename_i m hm
        injection hd with hd; subst hd
        cases hv with
        | sl hs => exact (AD.slice hG hs hg hm).hs (fun x e => by subst e; simp [V.hs])
      · cases hd
    · cases ho
  | .agg l, d, ty, cs, ho, hd, hv, hn => by
    have hv0 := hv
    have hd0 := hd
    simp only [ownAll] at ho
    simp only [V.hs] at hn
    simp only [toD] at hd
    split at hd
    · rename_i ds hds
      injection hd with hd; subst hd
      obtain ⟨g1, g2⟩ := hss_apart hn
      obtain ⟨t1, t2⟩ := toDs_get hds
      have hall := adopt_Vs hG hap l ho hds g1
      have hdis : ∀ i j x, i ≠ j → i < ds.length → j < ds.length → (∃ v, l[i]? = some v ∧ x ∈ v.hs) → ¬ ∃ v, l[j]? = some v ∧ x ∈ v.hs := by
        rintro i j x hij hi hj ⟨v, hv, hx⟩ ⟨w, hw, hx'⟩
        exact g2 i j v w hv hw hij x hx hx'
      intro n0
      by_cases hfl : D.flats ds = true
      · have hp := hv0.pure (toD_flat _ hd0 hfl)
        simp only [adopt, if_pos hfl]
        refine ⟨noρ, .d hp ?_, .empty⟩
        cases hv0 <;> rfl
      · simp only [adopt, if_neg hfl]
        cases hv with
        | @struct t fs _ _ h1 h0 h2 h3 h4 =>
          obtain ⟨ρ1, k1, k2, k3⟩ := AD.list hap ds (fun i => (match fs[i]? with | some f => tyOf P f.type | none => .no, match fs[i]? with | some f => seg cs f.offset (tySize P (tyOf P f.type)) | none => [])) (fun i x => ∃ v, l[i]? = some v ∧ x ∈ v.hs) (fun i d hd => by
            have hi : i < l.length := by rw [← t1]; exact (List.getElem?_eq_some_iff.1 hd).1
            have hli := List.getElem?_eq_getElem hi
            have hfi : fs[i]? = some (fs[i]'(by rw [← h3]; exact hi)) := by simp [← h3, hi]
            have := hall i _ d _ _ hli hd (h4 i _ _ hfi hli)
            rw [hfi]
            exact this.hs (fun x hx => ⟨_, hli, hx⟩)) hdis n0
          refine ⟨ρ1, VR.struct_of h1 h0 h2 (by rw [k2, t1, h3]) k1, k3.hs ?_⟩
          rintro x ⟨i, _, v, hv, hx⟩
          simp only [V.hs]
          exact mem_hss hv hx
        | @array t n e _ _ h1 h0 h2 h3 h4 =>
          obtain ⟨ρ1, k1, k2, k3⟩ := AD.list hap ds (fun i => (tyOf P e, seg cs (i * tySize P (tyOf P e)) (tySize P (tyOf P e)))) (fun i x => ∃ v, l[i]? = some v ∧ x ∈ v.hs) (fun i d hd => by
            have hi : i < l.length := by rw [← t1]; exact (List.getElem?_eq_some_iff.1 hd).1
            have hli := List.getElem?_eq_getElem hi
            exact (hall i _ d _ _ hli hd (h4 i _ hli)).hs (fun x hx => ⟨_, hli, hx⟩)) hdis n0
          refine ⟨ρ1, .array h1 h0 h2 (by rw [k2, t1, h3]) (fun i v hv => k1 i v hv), k3.hs ?_⟩
          rintro x ⟨i, _, v, hv, hx⟩
          simp only [V.hs]
          exact mem_hss hv hx
    · cases hd
  | .asl _ _, d, ty, cs, ho, _, _, _ => by simp [ownAll] at ho
  | .ptr _ _, d, ty, cs, ho, _, _, _ => by simp [ownAll] at ho
  | .rp _, d, ty, cs, ho, _, _, _ => by simp [ownAll] at ho
  | .clo _ _ _, d, ty, cs, ho, _, _, _ => by simp [ownAll] at ho
  | .map _, d, ty, cs, ho, _, _, _ => by simp [ownAll] at ho
  | .tup _, d, ty, cs, ho, _, _, _ => by simp [ownAll] at ho
  | .und, d, ty, cs, ho, _, _, _ => by simp [ownAll] at ho
theorem adopt_Vs (hG : ∀ h b, G h = some b → BR P C own h b) (hap : ∀ (h h' : Nat) (l l' : List D) (L L' : Loc) (b : Nat), G h = some (.row true l) → G h' = some (.row true l') → C.ρ h = some L → C.ρ h' = some L' → L.blk = some b → L'.blk = some b → h = h') :
    ∀ (l : List V) {ds : List D}, ownAlls G l = true → toDs G l = some ds → (∀ (i : Nat) (v : V), l[i]? = some v → nodup v.hs = true) → ∀ (i : Nat) (v : V) (d : D) (ty : Ty) (cs : List Value), l[i]? = some v → ds[i]? = some d → VR P C ty v cs → AD P C own G d (ty, cs) (fun x => x ∈ v.hs)
  | [], ds, _, _, _, i, v, d, ty, cs, hv, _, _ => by simp at hv
  | w :: l, ds, ho, hd, hn, i, v, d, ty, cs, hv, hdd, hr => by
    simp only [ownAlls, Bool.and_eq_true] at ho
    simp only [toDs] at hd
    split at hd
    · rename_i x y h1 h2
      injection hd with hd; subst hd
      cases i with
      | zero =>
        simp at hv hdd
        subst hv hdd
        exact adopt_V hG hap w ho.1 h1 hr (hn 0 w rfl)
      | succ i => exact adopt_Vs hG hap l ho.2 h2 (fun i v hv => hn (i + 1) v (by simpa using hv)) i v d ty cs (by simpa using hv) (by simpa using hdd) hr
    · cases hd
end
end

theorem toD_ne {g : Nat → Option Blk} {v : V} {d : D} (h : toD g v = some d) : v.isUnd = false := by
  cases v <;> first | rfl | (simp [toD] at h; done)
theorem vsOf_res (v : V) : (∃ l, v = .tup l ∧ vsOf v = l) ∨ (vsOf v = [v] ∧ ∀ l, v ≠ .tup l) := by
  cases v <;> first | exact .inl ⟨_, rfl, rfl⟩ | exact .inr ⟨rfl, fun l e => by cases e⟩
theorem data_out {st : Bool} {n f : Nat} {ds rs : List D} (h : runF kp (n + 1) (if st then .dats f ds else .data f ds) = some (.ds rs)) : ∃ v u k, runF kp n (.call f (ds.map (if st then ofD else argV)) (fun _ => none) 0) = some (.val v u k) ∧ (ownAlls (hlook u) (vsOf v) && apartHs (V.hss (vsOf v))) = true ∧ toDs (hlook u) (vsOf v) = some rs := by
  have h : (match runF kp n (.call f (ds.map (if st then ofD else argV)) (fun _ => none) 0) with
    | some (.val v u _) =>
      let vs := match v with | .tup l => l | v => [v]
      if ownAlls (hlook u) vs && apartHs (V.hss vs) then (match toDs (hlook u) vs with | some rs => some (Ans.ds rs) | none => none) else none
    | _ => none) = some (.ds rs) := by
    cases st <;> (simp only [runF, step] at h; exact h)
  generalize runF kp n (.call f (ds.map (if st then ofD else argV)) (fun _ => none) 0) = r at h ⊢
  cases r with
  | none => cases h
  | some a =>
    cases a with
    | val v u k =>
      refine ⟨v, u, k, rfl, ?_⟩
      have h' : (if ownAlls (hlook u) (vsOf v) && apartHs (V.hss (vsOf v)) then (match toDs (hlook u) (vsOf v) with | some rs => some (Ans.ds rs) | none => none) else none) = some (.ds rs) := by
        cases v <;> exact h
      split at h'
      · rename_i hh
        refine ⟨hh, ?_⟩
        split at h'
        · rename_i e
          injection h' with h'; injection h' with h'; subst h'
          exact e
        · cases h'
      · cases h'
    | _ => cases h
theorem dat_snd {n : Nat} (hcs : CallSnd P FT (runF kp n)) : DatSnd P FT (runF kp (n + 1)) := by
  intro st f ds rs h hcp S0 w args hargs
  obtain ⟨v, u, k', h1, hown, hto⟩ := data_out h
  clear h
  have hheap0 : HRel P (dfr FT S0 w) (fun _ => none) (fun h => h < 0) w.heap (fun _ => none) (fun _ => False) :=
    ⟨fun b hb => hb.elim, fun h L e => (by cases e), fun h b e => (by cases e), fun h h' x x' L L' b e => (by cases e)⟩
  refine Calls.mono (hcs.2 f _ _ 0 v u k' h1 (dfr FT S0 w) (fun _ => none) (fun _ => False) w args rfl hheap0 (Nat.le_refl _) (Below.refl _ _) (by rw [hcp, List.append_nil]; exact hargs)) ?_
  rintro e w' ⟨x, rfl, ρ', own', res⟩
  refine ⟨x, rfl, res.below, fun n0 => ?_⟩
  rw [Bool.and_eq_true] at hown
  obtain ⟨ho, hn⟩ := hown
  rw [apart_nodup] at hn
  have hul : ∀ h, ulast u h = hlook u h := ulast_hlook res.nd
  have hgg : ∀ h b, hlook u h = some b → (fun h => match ulast u h with | some b => some b | none => (fun _ => none) h) h = some b := fun h b e => by
    simp only [hul, e]
  have hG : ∀ h b, hlook u h = some b → BR P (cx (dfr FT S0 w) w'.heap own' ρ') own' h b := fun h b e => res.heap.blk h b (hgg h b e)
  have hap : ∀ (h h' : Nat) (l l' : List D) (L L' : Loc) (b : Nat), hlook u h = some (.row true l) → hlook u h' = some (.row true l') → (cx (dfr FT S0 w) w'.heap own' ρ').ρ h = some L → (cx (dfr FT S0 w) w'.heap own' ρ').ρ h' = some L' → L.blk = some b → L'.blk = some b → h = h' :=
    fun h h' l l' L L' b e e' r r' eb eb' => res.heap.apart h h' _ _ L L' b (hgg h _ e) (hgg h' _ e') rfl rfl r r' eb eb'
  have hval := res.val
  have hcase := vsOf_res v
  generalize hvs : vsOf v = vs at hn ho hto hcase
  obtain ⟨g1, g2⟩ := hss_apart hn
  obtain ⟨t1, t2⟩ := toDs_get hto
  have hall := adopt_Vs hG hap vs ho hto g1
  have hdis : ∀ i j x, i ≠ j → i < rs.length → j < rs.length → (∃ v, vs[i]? = some v ∧ x ∈ v.hs) → ¬ ∃ v, vs[j]? = some v ∧ x ∈ v.hs := by
    rintro i j x hij hi hj ⟨v, hv, hx⟩ ⟨w, hw, hx'⟩
    exact g2 i j v w hv hw hij x hx hx'
  have fin : ∀ {T : Nat → Ty × List Value}, (∀ (i : Nat) (v : V), vs[i]? = some v → VR P (cx (dfr FT S0 w) w'.heap own' ρ') (T i).1 v (T i).2) →
      ∃ ρ1, HRel P (dfr FT S0 w) (ulast (adopts n0 rs).2.1) (fun h => n0 ≤ h ∧ h < (adopts n0 rs).2.2) w'.heap ρ1 own' ∧ (adopts n0 rs).1.length = rs.length ∧ ∀ (i : Nat) (v : V), (adopts n0 rs).1[i]? = some v → VR P (cx (dfr FT S0 w) w'.heap own' ρ1) (T i).1 v (T i).2 := by
    intro T hT
    obtain ⟨ρ1, k1, k2, k3⟩ := AD.list hap rs T (fun i x => ∃ v, vs[i]? = some v ∧ x ∈ v.hs) (fun i d hd => by
      have hi : i < vs.length := by rw [← t1]; exact (List.getElem?_eq_some_iff.1 hd).1
      have hli := List.getElem?_eq_getElem hi
      exact (hall i _ d _ _ hli hd (hT i _ hli)).hs (fun x hx => ⟨_, hli, hx⟩)) hdis n0
    exact ⟨ρ1, ⟨res.heap.bnd, fun h L e => k3.dom h L e, k3.blk, fun h h' x x' L L' b _ _ _ _ r r' eb eb' => k3.inj h h' L L' b r r' eb eb'⟩, k2, k1⟩
  rcases hcase with ⟨l, rfl, hl⟩ | ⟨hl, hne⟩
  · subst hl
    generalize htt : resT (FT f).rs = tt at hval ⊢
    rcases hval with hval | ⟨hval, hx⟩ | hval
    · cases hval
    · injection hval with hval; subst hval
      have : rs = [] := List.eq_nil_of_length_eq_zero (by rw [t1]; rfl)
      subst this
      obtain ⟨ρ1, k1, _, _⟩ := fin (T := fun _ => (.no, [])) (fun i v hv => by simp at hv)
      exact ⟨ρ1, own', k1, .inr (.inl ⟨rfl, hx⟩)⟩
    · cases tt with
      | o ty =>
        exfalso
        have := hval.1
        cases this
      | t lt =>
        obtain ⟨vs', ws, e1, rfl, h3, h4, h5⟩ := hval
        injection e1 with e1; subst e1
        have hvs : ∀ (i : Nat) (v : V), vs[i]? = some v → ∃ ty w0, lt[i]? = some ty ∧ ws[i]? = some w0 ∧ VS P (cx (dfr FT S0 w) w'.heap own' ρ') ty v w0 := by
          intro i v hv
          have hi : i < vs.length := (List.getElem?_eq_some_iff.1 hv).1
          have hi2 : i < lt.length := by rw [← h3]; exact hi
          have hi3 : i < ws.size := by rw [h4]; exact hi2
          refine ⟨lt[i], ws[i], List.getElem?_eq_getElem hi2, Array.getElem?_eq_getElem hi3, ?_⟩
          rcases h5 i _ v _ (List.getElem?_eq_getElem hi2) hv (Array.getElem?_eq_getElem hi3) with k | k
          · exfalso
            subst k
            have := ownAlls_get ho i _ hv
            cases this
          · exact k
        obtain ⟨ρ1, k1, k2, k3⟩ := fin (T := fun i => (match lt[i]? with | some ty => ty | none => .no, match ws[i]? with | some w0 => w0.cells.toList | none => [])) (fun i v hv => by
          obtain ⟨ty, w0, e1, e2, e3⟩ := hvs i v hv
          simp only [e1, e2]
          exact e3.1)
        have hlen : (adopts n0 rs).1.length = lt.length := by rw [k2, t1, h3]
        refine ⟨ρ1, own', k1, ?_⟩
        have hT : ∀ (i : Nat) (ty : Ty) (v : V) (w0 : Value), lt[i]? = some ty → (adopts n0 rs).1[i]? = some v → ws[i]? = some w0 → VS P (cx (dfr FT S0 w) w'.heap own' ρ1) ty v w0 := by
          intro i ty v w0 ht hv hw
          have hi : i < vs.length := by rw [h3]; exact (List.getElem?_eq_some_iff.1 ht).1
          obtain ⟨ty', w0', e1, e2, e3⟩ := hvs i _ (List.getElem?_eq_getElem hi)
          rw [ht] at e1; injection e1 with e1; subst e1
          rw [hw] at e2; injection e2 with e2; subst e2
          have := k3 i v hv
          simp only [ht, hw] at this
          exact ⟨this, e3.2⟩
        have hne1 : lt.length ≠ 1 := by
          intro e
          generalize (FT f).rs = l0 at htt
          match l0, htt with
          | [_], htt => cases htt
          | [], htt => injection htt with htt; subst htt; cases e
          | _ :: _ :: _, htt => injection htt with htt; subst htt; simp at e
        refine .inr (.inr ⟨(adopts n0 rs).1, ws, ?_, rfl, hlen, h4, fun i ty v w0 ht hv hw => .inr (hT i ty v w0 ht hv hw)⟩)
        generalize (adopts n0 rs).1 = m at hlen
        match m, hlen with
        | [_], hlen => exact absurd hlen.symm hne1
        | [], _ => rfl
        | _ :: _ :: _, _ => rfl
  · subst hl
    have hrl : rs.length = 1 := t1
    obtain ⟨d, rfl⟩ := List.length_eq_one_iff.1 hrl
    rcases hval with hval | ⟨hval, _⟩ | hval
    · subst hval
      have := ownAlls_get ho 0 _ rfl
      cases this
    · exact absurd hval (hne [])
    · generalize resT (FT f).rs = tt at hval ⊢
      cases tt with
      | t lt =>
        obtain ⟨vs', ws, e1, _⟩ := hval
        exact absurd e1 (hne vs')
      | o ty =>
        obtain ⟨ρ1, k1, k2, k3⟩ := fin (T := fun _ => (ty, x.cells.toList)) (fun i v' hv => by
          cases i with
          | zero => simp at hv; subst hv; exact hval.1
          | succ i => simp at hv)
        refine ⟨ρ1, own', k1, ?_⟩
        generalize (adopts n0 [d]).1 = m at k2 k3
        match m, k2, k3 with
        | [v'], _, k3 => exact .inr (.inr ⟨k3 0 v' rfl, hval.2⟩)

theorem datk_out {n f : Nat} {ds rs : List D} (h : runF kp (n + 1) (.datk f ds) = some (.ds rs)) : ∃ v u k w, runF kp n (.call f (ds.map ofD) (fun _ => none) 0) = some (.val v u k) ∧ freezes (hlook u) (vsOf v) = some (rs, w) := by
  simp only [runF, step] at h
  generalize runF kp n (.call f (ds.map ofD) (fun _ => none) 0) = r at h ⊢
  cases r with
  | none => cases h
  | some a =>
    cases a with
    | val v u k =>
      have h' : (match freezes (hlook u) (vsOf v) with | some (rs, _) => some (Ans.ds rs) | none => none) = some (.ds rs) := by
        cases v <;> exact h
      split at h'
      · rename_i rs' w e
        injection h' with h'; injection h' with h'; subst h'
        exact ⟨v, u, k, w, rfl, e⟩
      · cases h'
    | _ => cases h
theorem freeze_ne {g : Nat → Option Blk} {v : V} {d : D} {u : Hp} (h : freeze g v = some (d, u)) : v.isUnd = false := by
  cases v <;> first | rfl | (simp [Fw.freeze] at h; done)
theorem datk_snd {n : Nat} (hcs : CallSnd P FT (runF kp n)) : DatkSnd P FT (runF kp (n + 1)) := by
  intro f ds rs h hcp S0 w args hargs
  obtain ⟨v, u, k', uf, h1, hfz⟩ := datk_out h
  clear h
  have hheap0 : HRel P (dfr FT S0 w) (fun _ => none) (fun h => h < 0) w.heap (fun _ => none) (fun _ => False) :=
    ⟨fun b hb => hb.elim, fun h L e => (by cases e), fun h b e => (by cases e), fun h h' x x' L L' b e => (by cases e)⟩
  refine Calls.mono (hcs.2 f _ _ 0 v u k' h1 (dfr FT S0 w) (fun _ => none) (fun _ => False) w args rfl hheap0 (Nat.le_refl _) (Below.refl _ _) (by rw [hcp, List.append_nil]; exact hargs)) ?_
  rintro e w' ⟨x, rfl, ρ', own', res⟩
  refine ⟨x, rfl, res.below, ?_⟩
  have hul : ∀ h, ulast u h = hlook u h := ulast_hlook res.nd
  have hgg : ∀ h b, hlook u h = some b → (fun h => match ulast u h with | some b => some b | none => (fun _ => none) h) h = some b := fun h b e => by
    simp only [hul, e]
  have hG : ∀ h b, hlook u h = some b → BR P (cx (dfr FT S0 w) w'.heap own' ρ') own' h b := fun h b e => res.heap.blk h b (hgg h b e)
  have hval := res.val
  have hS : ∀ b, (cx (dfr FT S0 w) w'.heap own' ρ').S b → (cx (dfr FT S0 w) w'.heap (fun _ => False) (fun _ => none)).S b := fun b hb => ⟨hb.1, id, hb.2.2⟩
  have hone : ∀ (i : Nat) (v1 : V) (d : D) (ty : Ty) (cs : List Value), (vsOf v)[i]? = some v1 → rs[i]? = some d → VR P (cx (dfr FT S0 w) w'.heap own' ρ') ty v1 cs → VR P (cx (dfr FT S0 w) w'.heap (fun _ => False) (fun _ => none)) ty (ofD d) cs := by
    intro i v1 d ty cs hv hd hr
    obtain ⟨u', hfi, hsub⟩ := freezes_get _ hfz i _ d hv hd
    refine ofD_VR (hr.freeze (own := own') hG hS hfi hsub (fun h l L b hm hg hL hb => ?_))
    have ho : own' b := res.heap.own_of (hgg h _ hg) rfl hL hb
    have hbd := res.heap.bnd b ho
    exact ⟨hbd.2, id, fun hlt => absurd hlt (by have := hbd.1; omega)⟩
  have hlen := freezes_len _ hfz
  have hcase := vsOf_res v
  rcases hcase with ⟨l, rfl, hl⟩ | ⟨hl, hne⟩
  · rw [hl] at hone hlen hfz
    generalize htt : resT (FT f).rs = tt at hval ⊢
    rcases hval with hval | ⟨hval, hx⟩ | hval
    · cases hval
    · injection hval with hval; subst hval
      have : rs = [] := List.eq_nil_of_length_eq_zero hlen
      subst this
      exact .inr (.inl ⟨rfl, hx⟩)
    · cases tt with
      | o ty =>
        exfalso
        have := hval.1
        cases this
      | t lt =>
        obtain ⟨vs', ws, e1, rfl, h3, h4, h5⟩ := hval
        injection e1 with e1; subst e1
        have hne1 : lt.length ≠ 1 := by
          intro e
          generalize (FT f).rs = l0 at htt
          match l0, htt with
          | [_], htt => cases htt
          | [], htt => injection htt with htt; subst htt; cases e
          | _ :: _ :: _, htt => injection htt with htt; subst htt; simp at e
        have hml : (rs.map ofD).length = lt.length := by rw [List.length_map, hlen, h3]
        refine .inr (.inr ⟨rs.map ofD, ws, ?_, rfl, hml, h4, fun i ty v1 w0 ht hv hw => .inr ?_⟩)
        · generalize rs.map ofD = m at hml
          match m, hml with
          | [_], hml => exact absurd hml.symm hne1
          | [], _ => rfl
          | _ :: _ :: _, _ => rfl
        · rw [List.getElem?_map, Option.map_eq_some_iff] at hv
          obtain ⟨dd, hdd, rfl⟩ := hv
          have hi : i < l.length := by rw [← hlen]; exact (List.getElem?_eq_some_iff.1 hdd).1
          have hli := List.getElem?_eq_getElem hi
          rcases h5 i ty _ w0 ht hli hw with k | k
          · exfalso
            obtain ⟨u', hfi, _⟩ := freezes_get _ hfz i _ dd hli hdd
            rw [k] at hfi
            have := freeze_ne hfi
            cases this
          · exact ⟨hone i _ dd ty _ hli hdd k.1, k.2⟩
  · rw [hl] at hone hlen hfz
    have hrl : rs.length = 1 := hlen
    obtain ⟨d, rfl⟩ := List.length_eq_one_iff.1 hrl
    obtain ⟨u', hfi, _⟩ := freezes_get _ hfz 0 v d rfl rfl
    have hnu := freeze_ne hfi
    rcases hval with hval | ⟨hval, _⟩ | hval
    · subst hval; cases hnu
    · exact absurd hval (hne [])
    · generalize resT (FT f).rs = tt at hval ⊢
      cases tt with
      | t lt =>
        obtain ⟨vs', ws, e1, _⟩ := hval
        exact absurd e1 (hne vs')
      | o ty => exact .inr (.inr ⟨hone 0 v d ty _ rfl rfl hval.1, hval.2⟩)

theorem data_snd {n : Nat} (hcs : CallSnd P FT (runF kp n)) : DataSnd P FT (runF kp (n + 1)) := ⟨dat_snd hcs, datk_snd hcs⟩
/-- All calls. -/
theorem snd (hsg : ∀ f, sgsOk P FT f = true) (hok : ∀ f kf, kp f = some kf → FnOk P FT f kf) : ∀ n, CallSnd P FT (runF kp n) ∧ DataSnd P FT (runF kp n)
  | 0 => ⟨⟨hsg, fun f vs g k v u k' h => by simp [runF] at h⟩, ⟨fun st f ds rs h => by cases st <;> simp [runF] at h, fun f ds rs h => by simp [runF] at h⟩⟩
  | n + 1 => by
    obtain ⟨h1, h2⟩ := snd hsg hok n
    exact ⟨call_snd hok h1 h2, data_snd h1⟩
end Go.Fw
namespace Go.Fw
open Go Go.RowKit
variable {P : Program}

/-- What data are like. -/
inductive Sh where
  | i (k : IntKind)
  | b
  | sl (s : Sh)
  | st (l : List Sh)
  | ar (n : Nat) (s : Sh)
mutual
def Sh.has : Sh → D → Prop
  | .i k, .int k' n => k = k' ∧ (Lit.int k n).wf = true
  | .b, .bool _ => True
  | .sl s, .sl nl l => (nl = true → l = []) ∧ l.length ≤ maxLen ∧ ∀ x ∈ l, s.has x
  | .st ss, .agg l => Sh.hasL ss l
  | .ar n s, .agg l => l.length = n ∧ ∀ x ∈ l, s.has x
  | _, _ => False
def Sh.hasL : List Sh → List D → Prop
  | [], [] => True
  | s :: ss, x :: l => s.has x ∧ Sh.hasL ss l
  | _, _ => False
end
variable (P) in
mutual
def shOk : Sh → TypeId → Bool
  | .i k, t => (match P.underlying t with | some (.int k') => decide (k = k') | _ => false)
  | .b, t => (match P.underlying t with | some .bool => true | _ => false)
  | .sl s, t => (match P.underlying t with | some (.slice e) => decide (P.cellsOf e = tySize P (tyOf P e)) && decide (0 < P.cellsOf e) && shOk s e | _ => false)
  | .st ss, t => (match P.underlying t with | some (.struct fs) => structOk P t fs && shOkL ss (fs.toList.map (·.type)) | _ => false)
  | .ar n s, t => (match P.underlying t with | some (.array m e) => decide (n = m) && decide (P.cellsOf e = tySize P (tyOf P e)) && decide (P.cellsOf t = m * tySize P (tyOf P e)) && shOk s e | _ => false)
def shOkL : List Sh → List TypeId → Bool
  | [], [] => true
  | s :: ss, t :: ts => decide (P.cellsOf t = tySize P (tyOf P t)) && shOk s t && shOkL ss ts
  | _, _ => false
end

theorem pickL {α : Type} {n : Nat} {Q : Nat → α → Prop} (h : ∀ i, i < n → ∃ d, Q i d) : ∃ l : List α, l.length = n ∧ ∀ (i : Nat) (d : α), l[i]? = some d → Q i d := by
  induction n with
  | zero => exact ⟨[], rfl, fun i d hd => by simp at hd⟩
  | succ n ih =>
    obtain ⟨l, h1, h2⟩ := ih (fun i hi => h i (by omega))
    obtain ⟨d, hd⟩ := h n (by omega)
    refine ⟨l ++ [d], by simp [h1], fun i d' hd' => ?_⟩
    by_cases hi : i < n
    · rw [List.getElem?_append_left (by omega)] at hd'
      exact h2 i d' hd'
    · rw [List.getElem?_append_right (by omega)] at hd'
      have : i - l.length = 0 := by
        cases hk : i - l.length with
        | zero => rfl
        | succ k => rw [hk] at hd'; simp at hd'
      rw [this] at hd'
      simp at hd'
      subst hd'
      have : i = n := by omega
      subst this
      exact hd
theorem cell_out {w : World} {a : Addr} {v : Value} (h : w.cell? a = some v) : ∃ c t fr, w.heap[a.block]? = some (.cells c t fr) ∧ a.spot = none ∧ c[a.off]? = some v := by
  unfold World.cell? at h
  split at h
  · rename_i c t fr hb
    cases hs : a.spot with
    | none => rw [hs] at h; exact ⟨c, t, fr, hb, rfl, by simpa using h⟩
    | some k => rw [hs] at h; simp at h
  · cases h
theorem add_out (a : Addr) (n : Nat) : (a.add n).block = a.block ∧ (a.add n).off = a.off + n := by
  unfold Addr.add
  split
  · rename_i e; subst e; exact ⟨rfl, rfl⟩
  · exact ⟨rfl, rfl⟩
theorem cells_at {w : World} {a : Addr} {n : Nat} {cs : List Value} (hn : 0 < n) (h : w.cells? 0 a n = some cs) : CellsAt w.heap a.block a.off cs ∧ cs.length = n ∧ a.spot = none ∧ a.block < w.heap.size := by
  obtain ⟨_, h1, h2⟩ := World.cells?_some h
  have hget : ∀ i (hi : i < n), ∃ c t fr, w.heap[a.block]? = some (.cells c t fr) ∧ (a.add i).spot = none ∧ c[a.off + i]? = cs[i]? := by
    intro i hi
    have hci : cs[i]? = some (cs[i]'(by omega)) := List.getElem?_eq_getElem (by omega)
    have := h2 i hi
    rw [hci] at this
    obtain ⟨c, t, fr, k1, k2, k3⟩ := cell_out this
    rw [(add_out a i).1] at k1
    rw [(add_out a i).2] at k3
    exact ⟨c, t, fr, k1, k2, by rw [k3, hci]⟩
  obtain ⟨c, t, fr, hb, hsp, _⟩ := hget 0 hn
  have hcell : ∀ i, i < n → c[a.off + i]? = cs[i]? := by
    intro i hi
    obtain ⟨c', t', fr', hb', _, k⟩ := hget i hi
    rw [hb] at hb'
    injection hb' with hb'; injection hb' with e1 e2 e3
    rw [e1]; exact k
  have hsize : a.off + n ≤ c.size := by
    have := hcell (n - 1) (by omega)
    rw [List.getElem?_eq_getElem (by omega)] at this
    have := (Array.getElem?_eq_some_iff.1 this).1
    omega
  refine ⟨⟨c, t, fr, hb, by omega, ?_⟩, h1, by simpa [Addr.add] using hsp, (Array.getElem?_eq_some_iff.1 hb).1⟩
  apply List.ext_getElem?
  intro i
  unfold seg
  rw [List.getElem?_take]
  split
  · rename_i hi
    rw [List.getElem?_drop]
    have := hcell i (by omega)
    rw [← this]
    simp
  · rename_i hi
    rw [List.getElem?_eq_none (by omega)]

section
variable {H : Type} {enc : TypeId × Value → H} {w : World} {sp : Nat → Bool} {held : Bool}
theorem trod_array' {t e : TypeId} {n : Nat} {fuel : Nat} {cs : List Value} {x : DataW H × List MemPlace} (ht : P.underlying t = some (.array n e)) (h : DataW.trod enc P w 0 sp held fuel t cs = some x) :
    ∃ (xs : List (DataW H × List MemPlace)) (m : Nat), fuel = m + 1 ∧ cs.length = P.cellsOf t ∧ ∀ i, i < n → ∃ y, DataW.trod enc P w 0 sp held m e ((cs.drop (i * P.cellsOf e)).take (P.cellsOf e)) = some y := by
  cases fuel with
  | zero => simp [DataW.trod] at h
  | succ m =>
    unfold DataW.trod at h
    rw [ht] at h
    simp only at h
    split at h
    · rename_i hl
      rw [Option.map_eq_some_iff] at h
      obtain ⟨xs, hp, _⟩ := h
      refine ⟨xs, m, rfl, hl, fun i hi => ?_⟩
      have hlen : xs.length = n := by simpa using mapM_some_length hp
      have := mapM_some_get hp i i (by simp [hi])
      rw [List.getElem?_eq_getElem (by omega)] at this
      exact ⟨_, this⟩
    · cases h
mutual
theorem reads : ∀ (s : Sh) {fuel : Nat} {t : TypeId} {cs : List Value} {x : DataW H × List MemPlace}, shOk P s t = true → DataW.trod enc P w 0 sp held fuel t cs = some x → ∃ d, RD P w.heap (fun b => b < w.heap.size) (tyOf P t) d cs ∧ s.has d
  | .i k, fuel, t, cs, x, hs, h => by
    simp only [shOk] at hs
    split at hs
    · rename_i k' hu
      have := of_decide_eq_true hs
      subst this
      obtain ⟨n, rfl, _, hw⟩ := DataW.trod_int hu h
      refine ⟨.int k n, ?_, rfl, hw⟩
      have : tyOf P t = .i k := by simp [tyOf, hu]
      rw [this]
      exact .int hw
    · cases hs
  | .b, fuel, t, cs, x, hs, h => by
    simp only [shOk] at hs
    split at hs
    · rename_i hu
      obtain ⟨b, rfl, _⟩ := DataW.trod_bool hu h
      refine ⟨.bool b, ?_, trivial⟩
      have : tyOf P t = .b := by simp [tyOf, hu]
      rw [this]
      exact .bool
    · cases hs
  | .sl s, fuel, t, cs, x, hs, h => by
    simp only [shOk] at hs
    split at hs
    · rename_i e hu
      simp only [Bool.and_eq_true, decide_eq_true_eq] at hs
      obtain ⟨⟨h1, h2⟩, h3⟩ := hs
      have ht : tyOf P t = .sl e := by simp [tyOf, hu]
      rw [ht]
      rcases DataW.trod_slice hu h with ⟨rfl, _⟩ | ⟨a, len, cap, elems, rest, n, rfl, rfl, _, _, hl, hm, hlen, hel, _⟩
      · exact ⟨.sl true [], .nil, fun _ => rfl, by simp, fun x hx => by simp at hx⟩
      · have key : ∀ i, i < len → ∃ y : D × List Value, CellsAt w.heap a.block (a.off + i * P.cellsOf e) y.2 ∧ a.block < w.heap.size ∧ (i = 0 → a.spot = none) ∧ RD P w.heap (fun b => b < w.heap.size) (tyOf P e) y.1 y.2 ∧ s.has y.1 := by
          intro i hi
          have := hel i hi
          rw [List.getElem?_eq_getElem (by omega), Option.bind_eq_some_iff] at this
          obtain ⟨cs, hc, htr⟩ := this
          obtain ⟨k1, _, k3, k4⟩ := cells_at h2 hc
          obtain ⟨d, hd, hh⟩ := reads s h3 htr
          have e1 : (a.add (i * P.cellsOf e)).block = a.block ∧ (a.add (i * P.cellsOf e)).off = a.off + i * P.cellsOf e := by
            unfold Addr.add
            split
            · rename_i e0; rw [e0]; exact ⟨rfl, rfl⟩
            · exact ⟨rfl, rfl⟩
          rw [e1.1, e1.2] at k1
          rw [e1.1] at k4
          refine ⟨(d, cs), k1, k4, fun e0 => ?_, hd, hh⟩
          subst e0
          rw [Nat.zero_mul] at k3
          simpa [Addr.add] using k3
        obtain ⟨l, l1, l2⟩ := pickL key
        refine ⟨.sl false (l.map (·.1)), ?_, ⟨fun h => (by cases h), by rw [List.length_map, l1]; omega, fun x hx => ?_⟩⟩
        · have hq : ∀ i, i < l.length → ∃ y : D × List Value, l[i]? = some y := fun i hi => ⟨_, List.getElem?_eq_getElem hi⟩
          have hpos : l.map (·.1) ≠ [] → 0 < len := by
            intro hne
            cases l with
            | nil => simp at hne
            | cons y l => simp at l1; omega
          have e0 : len = (l.map (·.1)).length := by simp [l1]
          have ea : a = ⟨a.block, a.off, a.spot⟩ := rfl
          rw [ea, e0]
          refine .slice (g := fun i => ((l[i]?).map (·.2)).getD []) (by simp [l1]; omega) hm (fun hne => ?_) (fun hne => ?_) (fun i hi => ?_) (fun i d hd => ?_)
          · obtain ⟨y, hy⟩ := hq 0 (by rw [l1]; exact hpos hne)
            exact (l2 0 y hy).2.2.1 rfl
          · obtain ⟨y, hy⟩ := hq 0 (by rw [l1]; exact hpos hne)
            exact (l2 0 y hy).2.1
          · obtain ⟨y, hy⟩ := hq i (by simpa using hi)
            simp only [hy, Option.map_some, Option.getD_some]
            rw [← h1]
            exact (l2 i y hy).1
          · rw [List.getElem?_map, Option.map_eq_some_iff] at hd
            obtain ⟨y, hy, rfl⟩ := hd
            simp only [hy, Option.map_some, Option.getD_some]
            exact (l2 i y hy).2.2.2.1
        · obtain ⟨y, hy, rfl⟩ := List.mem_map.1 hx
          obtain ⟨i, hi⟩ := List.getElem?_of_mem hy
          exact (l2 i y hi).2.2.2.2
    · cases hs
  | .st ss, fuel, t, cs, x, hs, h => by
    simp only [shOk] at hs
    split at hs
    · rename_i fs hu
      simp only [Bool.and_eq_true] at hs
      have ht : tyOf P t = .ag t := by simp [tyOf, hu]
      rw [ht]
      obtain ⟨xs, n, rfl, _, hl, hx, hf⟩ := DataW.trod_struct hu h
      obtain ⟨ds, k1, k2, k3⟩ := readsL ss (fun i => (cs.drop ((fs[i]?).map (·.offset)|>.getD 0)).take (((fs[i]?).map (fun f => P.cellsOf f.type)).getD 0)) hs.2 (n := n) (fun i u hu' => by
        rw [List.getElem?_map, Option.map_eq_some_iff] at hu'
        obtain ⟨f, hf', rfl⟩ := hu'
        have hfi : fs[i]? = some f := by simpa using hf'
        have := hf i f hfi
        rw [List.getElem?_eq_getElem (by rw [hx]; exact (Array.getElem?_eq_some_iff.1 hfi).1)] at this
        simp only [hfi, Option.map_some, Option.getD_some]
        exact ⟨_, this⟩)
      refine ⟨.agg ds, .struct hu (structOk.out hs.1) hl (by simpa using k1) (fun i f d hfi hd => ?_), k3⟩
      have hti : (fs.toList.map (·.type))[i]? = some f.type := by simp [hfi]
      have := k2 i d f.type hd hti
      simp only [hfi, Option.map_some, Option.getD_some] at this
      unfold seg
      rw [← (shOkL_get ss hs.2 i f.type hti)]
      exact this
    · cases hs
  | .ar n s, fuel, t, cs, x, hs, h => by
    simp only [shOk] at hs
    split at hs
    · rename_i m e hu
      simp only [Bool.and_eq_true, decide_eq_true_eq] at hs
      obtain ⟨⟨⟨rfl, h1⟩, h2⟩, h3⟩ := hs
      have ht : tyOf P t = .ag t := by simp [tyOf, hu]
      rw [ht]
      obtain ⟨xs, m, rfl, hl, hf⟩ := trod_array' hu h
      have key : ∀ i, i < n → ∃ d, RD P w.heap (fun b => b < w.heap.size) (tyOf P e) d (seg cs (i * tySize P (tyOf P e)) (tySize P (tyOf P e))) ∧ s.has d := by
        intro i hi
        obtain ⟨y, hy⟩ := hf i hi
        obtain ⟨d, hd, hh⟩ := reads s h3 hy
        rw [h1] at hd
        exact ⟨d, hd, hh⟩
      obtain ⟨ds, l1, l2⟩ := pickL key
      refine ⟨.agg ds, .array hu h2 hl l1 (fun i d hd => (l2 i d hd).1), l1, fun x hx => ?_⟩
      obtain ⟨i, hi⟩ := List.getElem?_of_mem hx
      exact (l2 i x hi).2
    · cases hs
theorem readsL : ∀ (ss : List Sh) (seg' : Nat → List Value) {ts : List TypeId} {n : Nat}, shOkL P ss ts = true → (∀ (i : Nat) (t : TypeId), ts[i]? = some t → ∃ y, DataW.trod enc P w 0 sp held n t (seg' i) = some y) →
    ∃ ds : List D, ds.length = ts.length ∧ (∀ (i : Nat) (d : D) (t : TypeId), ds[i]? = some d → ts[i]? = some t → RD P w.heap (fun b => b < w.heap.size) (tyOf P t) d (seg' i)) ∧ Sh.hasL ss ds
  | [], seg', [], n, _, _ => ⟨[], rfl, fun i d t hd => by simp at hd, trivial⟩
  | s :: ss, seg', t :: ts, n, hs, h => by
    simp only [shOkL, Bool.and_eq_true, decide_eq_true_eq] at hs
    obtain ⟨y, hy⟩ := h 0 t rfl
    obtain ⟨d, hd, hh⟩ := reads s hs.1.2 hy
    obtain ⟨ds, k1, k2, k3⟩ := readsL ss (fun i => seg' (i + 1)) hs.2 (n := n) (fun i t ht => h (i + 1) t (by simpa using ht))
    refine ⟨d :: ds, by simp [k1], fun i d' t' hd' ht' => ?_, hh, k3⟩
    cases i with
    | zero => simp at hd' ht'; subst hd' ht'; exact hd
    | succ i => exact k2 i d' t' (by simpa using hd') (by simpa using ht')
  | [], _, _ :: _, _, hs, _ => by simp [shOkL] at hs
  | _ :: _, _, [], _, hs, _ => by simp [shOkL] at hs
theorem shOkL_get : ∀ (ss : List Sh) {ts : List TypeId}, shOkL P ss ts = true → ∀ (i : Nat) (t : TypeId), ts[i]? = some t → P.cellsOf t = tySize P (tyOf P t)
  | [], [], _, i, t, h => by simp at h
  | s :: ss, u :: ts, hs, i, t, ht => by
    simp only [shOkL, Bool.and_eq_true, decide_eq_true_eq] at hs
    cases i with
    | zero => simp at ht; subst ht; exact hs.1.1
    | succ i => exact shOkL_get ss hs.2 i t (by simpa using ht)
  | [], _ :: _, hs, _, _, _ => by simp [shOkL] at hs
  | _ :: _, [], hs, _, _, _ => by simp [shOkL] at hs
end
end
end Go.Fw
namespace Go.Fw
open Go Go.RowKit Go.ChangeShapes
variable {P : Program} {FT : Nat → FTy} {kp : Nat → Option KF}

theorem okWide_form {s : Sh} {t : TypeId} {W : World} {base : Nat} {v : Value} (hs : shOk P s t = true) (h : Value.okWide P W .any base t v) : ((tyOf P t).isAg = true → ∃ cs, v = .agg cs) ∧ ((tyOf P t).isAg = false → v.cells = #[v]) := by
  cases s with
  | i k =>
    simp only [shOk] at hs
    split at hs
    · rename_i k' hu
      simp only [Value.okWide, hu, Cell.okWide] at h
      simp only [tyOf, hu, Ty.isAg, Bool.false_eq_true, false_imp_iff, true_and, forall_const]
      cases v <;> first | rfl | (simp_all [Cell.ok]; done)
    · cases hs
  | b =>
    simp only [shOk] at hs
    split at hs
    · rename_i hu
      simp only [Value.okWide, hu, Cell.okWide] at h
      simp only [tyOf, hu, Ty.isAg, Bool.false_eq_true, false_imp_iff, true_and, forall_const]
      cases v <;> first | rfl | (simp_all [Cell.ok]; done)
    · cases hs
  | sl s =>
    simp only [shOk] at hs
    split at hs
    · rename_i e hu
      simp only [Value.okWide, hu, Cell.okWide] at h
      simp only [tyOf, hu, Ty.isAg, Bool.false_eq_true, false_imp_iff, true_and, forall_const]
      cases v <;> first | rfl | (simp_all [Cell.ok]; done)
    · cases hs
  | st ss =>
    simp only [shOk] at hs
    split at hs
    · rename_i fs hu
      simp only [Value.okWide, hu] at h
      obtain ⟨cs, rfl, _⟩ := h
      simp [tyOf, hu, Ty.isAg]
    · cases hs
  | ar n s =>
    simp only [shOk] at hs
    split at hs
    · rename_i m e hu
      simp only [Value.okWide, hu] at h
      obtain ⟨cs, rfl, _⟩ := h
      simp [tyOf, hu, Ty.isAg]
    · cases hs

section
variable {H : Type} {enc : TypeId × Value → H}
theorem args_read {W : World} {base : Nat} : ∀ (shs : List Sh) (ts : List TypeId) (vs : List Value) (ds : List (DataW H)) (ps : List MemPlace), shOkL P shs ts = true → DataW.TrodAll enc P W 0 (fun _ => true) true ts vs ds ps → (∀ (j : Nat) (t : TypeId) (v : Value), ts[j]? = some t → vs[j]? = some v → Value.okWide P W .any base t v) →
    ∃ xs : List D, Sh.hasL shs xs ∧ xs.length = ts.length ∧ vs.length = ts.length ∧ ds.length = ts.length ∧ ∀ (i : Nat) (t : TypeId) (x : D) (v : Value), ts[i]? = some t → xs[i]? = some x → vs[i]? = some v →
      RD P W.heap (fun b => b < W.heap.size) (tyOf P t) x v.cells.toList ∧ ((tyOf P t).isAg = true → ∃ cs, v = .agg cs) ∧ ((tyOf P t).isAg = false → v.cells = #[v])
  | [], [], vs, ds, ps, _, h, _ => by
    obtain ⟨rfl, rfl, rfl⟩ := trodAll_nil h
    exact ⟨[], trivial, rfl, rfl, rfl, fun i t x v ht => by simp at ht⟩
  | s :: shs, t :: ts, vs, ds, ps, hs, h, hok => by
    obtain ⟨v, vs', d, ds', p, q, rfl, rfl, rfl, h1, h2⟩ := trodAll_cons h
    simp only [shOkL, Bool.and_eq_true, decide_eq_true_eq] at hs
    obtain ⟨fuel, hf⟩ := h1
    obtain ⟨x, k1, k2⟩ := reads s hs.1.2 hf
    obtain ⟨xs, m1, m2, m3, m3', m4⟩ := args_read shs ts vs' ds' q hs.2 h2 (fun j t v ht hv => hok (j + 1) t v (by simpa using ht) (by simpa using hv))
    refine ⟨x :: xs, ⟨k2, m1⟩, by simp [m2], by simp [m3], by simp [m3'], fun i t' x' v' ht hx hv => ?_⟩
    cases i with
    | zero =>
      simp at ht hx hv
      subst ht hx hv
      exact ⟨k1, okWide_form hs.1.2 (hok 0 t v rfl rfl)⟩
    | succ i => exact m4 i t' x' v' (by simpa using ht) (by simpa using hx) (by simpa using hv)
  | [], _ :: _, _, _, _, hs, _, _ => by simp [shOkL] at hs
  | _ :: _, [], _, _, _, hs, _, _ => by simp [shOkL] at hs
theorem args_stay {W W' : World} (hl : laidOutB P = true) (hb : Below W.heap.size W W') : ∀ (ts : List TypeId) (vs : List Value) (ds : List (DataW H)) (ps : List MemPlace), (ts.all fun t => P.readableRec t && decide (t < P.types.size)) = true → DataW.TrodAll enc P W 0 (fun _ => true) true ts vs ds ps →
    DataW.TrodAll enc P W' 0 (fun b => decide (b < W.heap.size)) true ts vs ds ps
  | [], vs, ds, ps, _, h => by
    obtain ⟨rfl, rfl, rfl⟩ := trodAll_nil h
    exact trodAll_mk0
  | t :: ts, vs, ds, ps, hr, h => by
    obtain ⟨v, vs', d, ds', p, q, rfl, rfl, rfl, h1, h2⟩ := trodAll_cons h
    simp only [List.all_cons, Bool.and_eq_true, decide_eq_true_eq] at hr
    have lt : ∀ x ∈ p, x.block < W.heap.size := by obtain ⟨m, hm⟩ := h1; exact DataW.trod_lt m _ _ _ hm
    refine ⟨p, q, Below.trod hl hr.1.1 hr.1.2 h1 hb lt, args_stay hl hb ts vs' ds' q (by simpa using hr.2) h2, rfl⟩

theorem law_calls (hsg : ∀ f, sgsOk P FT f = true) (hok : ∀ f kf, kp f = some kf → FnOk P FT f kf) {f : Nat} {ts : List TypeId} {shs : List Sh} (hcp : (FT f).cps = []) (hps : (FT f).ps = ts.map (tyOf P)) (hrs : (FT f).rs = [.b]) (hsh : shOkL P shs ts = true)
    (law : ∀ xs, Sh.hasL shs xs → run kp (.data f xs) = some (.ds [.bool true])) {W : World} {base : Nat} {args : Array Value} {ds : List (DataW H)} {ps : List MemPlace} (hA : DataW.TrodAll enc P W 0 (fun _ => true) true ts args.toList ds ps)
    (hval : ∀ (j : Nat) (t : TypeId) (v : Value), ts[j]? = some t → args.toList[j]? = some v → Value.okWide P W .any base t v) : Calls P f args W (fun e W' => e = .returned (.bool true) ∧ Below W.heap.size W W') := by
  obtain ⟨xs, h1, h2, h3, _, h4⟩ := args_read shs ts _ ds ps hsh hA hval
  obtain ⟨n, hn⟩ := run_some (law xs h1)
  refine Calls.mono ((snd (P := P) (FT := FT) hsg hok n).2.1 false f xs [.bool true] hn hcp (fun _ => True) W args ⟨by rw [List.length_map, h2, hps, List.length_map], by rw [h3, hps, List.length_map], fun i ty v x ht hv hx => ?_⟩) ?_
  · rw [hps, List.getElem?_map, Option.map_eq_some_iff] at ht
    obtain ⟨t, ht, rfl⟩ := ht
    rw [List.getElem?_map, Option.map_eq_some_iff] at hv
    obtain ⟨y, hy, rfl⟩ := hv
    obtain ⟨k1, k2⟩ := h4 i t y x ht hy hx
    exact .mk ⟨argV_of_RD (C0 := cx (dfr FT (fun _ => True) W) W.heap (fun _ => False) (fun _ => none)) rfl (fun b hb => ⟨hb, id, fun _ => trivial⟩) (fun b hb => ⟨hb, id⟩) k1, k2⟩
  · rintro e W' ⟨x, rfl, hb, hres⟩
    obtain ⟨ρ, own, _, hv⟩ := hres 0
    rw [hrs] at hv
    have := (VT.bool (b := true) hv).2
    rw [this]
    exact ⟨rfl, hb⟩
end

/-- The row's lifted half. -/
theorem lift {H : Type} {enc : TypeId × Value → H} {C : Checked} {s : ChangeSpec} {conds : List PathCond} {f : FuncId} {fn : Func} (hsg : ∀ f, sgsOk C.prog FT f = true) (hok : ∀ f kf, kp f = some kf → FnOk C.prog FT f kf) (hf : C.prog.funcs[f]? = some fn) (own : ownKnob C.prog.godebug = none) (noInit : C.prog.inits.idxOf? f = none) (laid : laidOutB C.prog = true)
    {shs : List Sh} {ts : List TypeId} (hts : fn.params.toList = ts) (hcp : (FT f).cps = []) (hps : (FT f).ps = ts.map (tyOf C.prog)) (hrs : (FT f).rs = [.b]) (hsh : shOkL C.prog shs ts = true) (hread : (ts.all fun t => C.prog.readableRec t && decide (t < C.prog.types.size)) = true)
    {tb : TypeId} (hrt : fn.resultTypes = #[tb]) (htb : C.prog.underlying tb = some .bool) (hvars : s.vars = []) (hfn : ∀ ds : List (DataW H), ds.length = ts.length → s.fn H ds = { results := [.lit (.bool true)], args := ds })
    (law : ∀ xs, Sh.hasL shs xs → run kp (.data f xs) = some (.ds [.bool true])) {os : Os} (started : os.Started)
    (witness : ∃ (w : World) (tape : Tape) (i : Input), w.os = os ∧ (w.forCall tape i).Shaped C.prog ∧ i.vars = [] ∧ Input.okWide C.prog (w.forCall tape i) .any w.heap.size f i ∧
      s.pre6 enc C.prog fn conds false (w.forCall tape i).memory i.args ∧ ({} : Assume).holds C.prog (lone (Frame.enter C.prog f i.args .normal) [] (w.forCall tape i))) :
    ReturnsInHanded {} C os f .any (s.pre6 enc C.prog fn conds false) (s.post enc C.prog fn false true false false) := by
  refine returnsInHanded_of_change_sized own started noInit hf witness ?_
  intro W base args ds gs before hval hW _ _ _
  have hW' := hW
  obtain ⟨p, q, hA, hV, rfl, hfz, hnd⟩ := hW
  rw [hvars] at hV
  obtain ⟨rfl, rfl⟩ := trodVars_none hV
  rw [hts] at hA
  refine (law_calls hsg hok hcp hps hrs hsh law hA (base := base) (fun j t v ht hv => hval j t v (by rw [← hts] at ht; simpa using ht) (by simpa using hv))).mono fun e W' ⟨he, bel⟩ => ?_
  subst he
  have hlen : ds.length = ts.length := (args_read shs ts _ ds p hsh hA (base := base) (fun j t v ht hv => hval j t v (by rw [← hts] at ht; simpa using ht) (by simpa using hv))).choose_spec.2.2.2.1
  refine ⟨.bool true, rfl, ds, [], _, [], p, [], hW', ?_, ?_, ?_, bel.frame _, fun h => by cases h⟩
  · rw [List.append_nil, hfn ds hlen, hrt]
    exact trodAll_mk1 ⟨1, by simp [DataW.trod, Value.cells, htb]⟩
  · rw [List.append_nil, hfn ds hlen, hts]
    exact args_stay laid bel ts _ ds p hread hA
  · rw [List.append_nil, hfn ds hlen, hvars]
    rfl

section
variable {H : Type} {enc : TypeId × Value → H}
/-- The same, where the law takes its arguments as data that stay. -/
theorem law_calls2 (hsg : ∀ f, sgsOk P FT f = true) (hok : ∀ f kf, kp f = some kf → FnOk P FT f kf) {f : Nat} {ts : List TypeId} {shs : List Sh} (hcp : (FT f).cps = []) (hps : (FT f).ps = ts.map (tyOf P)) (hrs : (FT f).rs = [.b]) (hsh : shOkL P shs ts = true)
    (law : ∀ xs, Sh.hasL shs xs → ∃ u k, run kp (.call f (xs.map ofD) (fun _ => none) 0) = some (.val (.bool true) u k)) {W : World} {base : Nat} {args : Array Value} {ds : List (DataW H)} {ps : List MemPlace} (hA : DataW.TrodAll enc P W 0 (fun _ => true) true ts args.toList ds ps)
    (hval : ∀ (j : Nat) (t : TypeId) (v : Value), ts[j]? = some t → args.toList[j]? = some v → Value.okWide P W .any base t v) : Calls P f args W (fun e W' => e = .returned (.bool true) ∧ Below W.heap.size W W') := by
  obtain ⟨xs, h1, h2, h3, _, h4⟩ := args_read shs ts _ ds ps hsh hA hval
  obtain ⟨u, k, hr⟩ := law xs h1
  obtain ⟨n, hn⟩ := run_some hr
  have hheap0 : HRel P (dfr FT (fun _ => True) W) (fun _ => none) (fun h => h < 0) W.heap (fun _ => none) (fun _ => False) :=
    ⟨fun b hb => hb.elim, fun h L e => (by cases e), fun h b e => (by cases e), fun h h' x x' L L' b e => (by cases e)⟩
  have hargs : argsVT P (cx (dfr FT (fun _ => True) W) W.heap (fun _ => False) (fun _ => none)) (FT f).ps (xs.map ofD) args.toList := by
    refine ⟨by rw [List.length_map, h2, hps, List.length_map], by rw [h3, hps, List.length_map], fun i ty v x ht hv hx => ?_⟩
    rw [hps, List.getElem?_map, Option.map_eq_some_iff] at ht
    obtain ⟨t, ht, rfl⟩ := ht
    rw [List.getElem?_map, Option.map_eq_some_iff] at hv
    obtain ⟨y, hy, rfl⟩ := hv
    obtain ⟨k1, k2⟩ := h4 i t y x ht hy hx
    exact .mk ⟨ofD_VR (k1.mono' (fun b hb => ⟨hb, id, fun _ => trivial⟩) (fun _ _ => rfl)), k2⟩
  refine Calls.mono ((snd (P := P) (FT := FT) hsg hok n).1.2 f _ _ 0 (.bool true) u k hn (dfr FT (fun _ => True) W) (fun _ => none) (fun _ => False) W args rfl hheap0 (Nat.le_refl _) (Below.refl _ _) (by rw [hcp, List.append_nil]; exact hargs)) ?_
  rintro e W' ⟨x, rfl, ρ', own', res⟩
  have hv := res.val
  rw [hrs] at hv
  have := (VT.bool (b := true) hv).2
  rw [this]
  exact ⟨rfl, res.below⟩
end

/-- The row's lifted half, where the law takes its arguments as data that stay. -/
theorem lift2 {H : Type} {enc : TypeId × Value → H} {C : Checked} {s : ChangeSpec} {conds : List PathCond} {f : FuncId} {fn : Func} (hsg : ∀ f, sgsOk C.prog FT f = true) (hok : ∀ f kf, kp f = some kf → FnOk C.prog FT f kf) (hf : C.prog.funcs[f]? = some fn) (own : ownKnob C.prog.godebug = none) (noInit : C.prog.inits.idxOf? f = none) (laid : laidOutB C.prog = true)
    {shs : List Sh} {ts : List TypeId} (hts : fn.params.toList = ts) (hcp : (FT f).cps = []) (hps : (FT f).ps = ts.map (tyOf C.prog)) (hrs : (FT f).rs = [.b]) (hsh : shOkL C.prog shs ts = true) (hread : (ts.all fun t => C.prog.readableRec t && decide (t < C.prog.types.size)) = true)
    {tb : TypeId} (hrt : fn.resultTypes = #[tb]) (htb : C.prog.underlying tb = some .bool) (hvars : s.vars = []) (hfn : ∀ ds : List (DataW H), ds.length = ts.length → s.fn H ds = { results := [.lit (.bool true)], args := ds })
    (law : ∀ xs, Sh.hasL shs xs → ∃ u k, run kp (.call f (xs.map ofD) (fun _ => none) 0) = some (.val (.bool true) u k)) {os : Os} (started : os.Started)
    (witness : ∃ (w : World) (tape : Tape) (i : Input), w.os = os ∧ (w.forCall tape i).Shaped C.prog ∧ i.vars = [] ∧ Input.okWide C.prog (w.forCall tape i) .any w.heap.size f i ∧
      s.pre6 enc C.prog fn conds false (w.forCall tape i).memory i.args ∧ ({} : Assume).holds C.prog (lone (Frame.enter C.prog f i.args .normal) [] (w.forCall tape i))) :
    ReturnsInHanded {} C os f .any (s.pre6 enc C.prog fn conds false) (s.post enc C.prog fn false true false false) := by
  refine returnsInHanded_of_change_sized own started noInit hf witness ?_
  intro W base args ds gs before hval hW _ _ _
  have hW' := hW
  obtain ⟨p, q, hA, hV, rfl, hfz, hnd⟩ := hW
  rw [hvars] at hV
  obtain ⟨rfl, rfl⟩ := trodVars_none hV
  rw [hts] at hA
  refine (law_calls2 hsg hok hcp hps hrs hsh law hA (base := base) (fun j t v ht hv => hval j t v (by rw [← hts] at ht; simpa using ht) (by simpa using hv))).mono fun e W' ⟨he, bel⟩ => ?_
  subst he
  have hlen : ds.length = ts.length := (args_read shs ts _ ds p hsh hA (base := base) (fun j t v ht hv => hval j t v (by rw [← hts] at ht; simpa using ht) (by simpa using hv))).choose_spec.2.2.2.1
  refine ⟨.bool true, rfl, ds, [], _, [], p, [], hW', ?_, ?_, ?_, bel.frame _, fun h => by cases h⟩
  · rw [List.append_nil, hfn ds hlen, hrt]
    exact trodAll_mk1 ⟨1, by simp [DataW.trod, Value.cells, htb]⟩
  · rw [List.append_nil, hfn ds hlen, hts]
    exact args_stay laid bel ts _ ds p hread hA
  · rw [List.append_nil, hfn ds hlen, hvars]
    rfl
end Go.Fw
namespace Go.Fw
open Go
theorem lookup_all {α : Type} {l : List (Nat × α)} {p : Nat × α → Bool} (h : l.all p = true) {f : Nat} {a : α} (hl : List.lookup f l = some a) : p (f, a) = true := by
  induction l with
  | nil => simp [List.lookup] at hl
  | cons x l ih =>
    obtain ⟨k, b⟩ := x
    simp only [List.all_cons, Bool.and_eq_true] at h
    simp only [List.lookup] at hl
    split at hl
    · rename_i he
      have e : f = k := by simpa using he
      subst e
      injection hl with hl; subst hl
      exact h.1
    · exact ih h.2 hl
theorem sgs_all {P : Program} {tl : List (Nat × FTy)} (h : tl.all (fun x => sgsOk P (fun n => (List.lookup n tl).getD default) x.1) = true) (f : Nat) : sgsOk P (fun n => (List.lookup n tl).getD default) f = true := by
  cases hl : List.lookup f tl with
  | some a => exact lookup_all (p := fun x => sgsOk P (fun n => (List.lookup n tl).getD default) x.1) h hl
  | none =>
    have e : ((fun n => (List.lookup n tl).getD default) f : FTy) = default := by simp [hl]
    unfold sgsOk
    rw [e]
    rfl
end Go.Fw
