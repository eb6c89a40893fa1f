/- Maps, function values; the check of one operation. No conditions. -/
import Derived.Test.YtfddchjmpmjcfaaGreatFwC
import Derived.Maps.Keyed
import Derived.DeepKeys4
import Derived.Laws.IdiomStrings
set_option linter.unusedVariables false
set_option linter.unusedSimpArgs false
namespace Go.Fw
open Go Go.RowKit
variable {P : Program}

variable (P) in
def keyOk (kt : TypeId) : Bool := match P.underlying kt with
  | some (.int _) => true
  | some (.struct _) => laidOutB P && decide (kt < P.types.size) && P.keyTypeAt 20 kt && P.keyType kt && eqTy P 20 kt && P.keyTypeAt (P.types.size + 1) kt && eqTy P (P.types.size + 1) kt
  | some (.array _ _) => laidOutB P && decide (kt < P.types.size) && P.keyTypeAt 20 kt && P.keyType kt && eqTy P 20 kt && P.keyTypeAt (P.types.size + 1) kt && eqTy P (P.types.size + 1) kt
  | _ => false
def Formed (P : Program) (t : TypeId) (v : Value) : Prop := ((tyOf P t).isAg = true → ∃ cs, v = .agg cs) ∧ ((tyOf P t).isAg = false → v.cells = #[v])
theorem keyOk.keyed {kt : TypeId} (h : keyOk P kt = true) : Maps.Keyed P kt := by
  unfold keyOk at h
  split at h
  · rename_i q hu; exact Maps.int_keyed hu
  · rename_i fs hu
    simp only [Bool.and_eq_true, decide_eq_true_eq] at h
    exact .of_law (deep_law_laid h.1.1.1.1.1.1 (m := 20) (by omega) h.1.1.1.1.1.2 h.1.1.1.1.2 (by rw [hu]))
  · rename_i n e hu
    simp only [Bool.and_eq_true, decide_eq_true_eq] at h
    exact .of_law (deep_law_laid h.1.1.1.1.1.1 (m := 20) (by omega) h.1.1.1.1.1.2 h.1.1.1.1.2 (by rw [hu]))
  · cases h
theorem keyOk.read {kt : TypeId} (h : keyOk P kt = true) {H : Array Obj} {S : Nat → Prop} {x : D} {v : Value} (hr : RD P H S (tyOf P kt) x v.cells.toList) (hf : Formed P kt v) : ∃ l, keyOf P kt v = some l ∧
    ∀ {y : D} {v' : Value} {H' : Array Obj} {S' : Nat → Prop}, RD P H' S' (tyOf P kt) y v'.cells.toList → Formed P kt v' → (v = v' ↔ x = y) := by
  have K := (keyOk.keyed h)
  have ag : ∀ (hag : (tyOf P kt).isAg = true) (hk : ∀ v : Value, keyOf P kt v = if P.keyType kt && v.formed P kt then (P.keyLits (P.types.size + 1) kt v.cells.toList).map fun ls => .string (keyBytes ls) else none)
      (ht : tyOf P kt = .ag kt) (hw : (match P.underlying kt with | some (.struct _) | some (.array _ _) => true | _ => false) = true) (h1 : P.keyType kt = true) (h2 : eqTy P (P.types.size + 1) kt = true),
      ∃ l, keyOf P kt v = some l ∧ ∀ {y : D} {v' : Value} {H' : Array Obj} {S' : Nat → Prop}, RD P H' S' (tyOf P kt) y v'.cells.toList → Formed P kt v' → (v = v' ↔ x = y) := by
    intro hag hk ht hw h1 h2
    have key : ∀ {y : D} {v' : Value} {H' : Array Obj} {S' : Nat → Prop}, RD P H' S' (tyOf P kt) y v'.cells.toList → Formed P kt v' → keyOf P kt v' = some (.string (keyBytes y.lits)) := by
      intro y v' H' S' hr' hf'
      obtain ⟨cs, rfl⟩ := hf'.1 hag
      have hl := hr'.length
      rw [ht] at hl
      have hl' : cs.size = P.cellsOf kt := by simpa [tySize, Value.cells] using hl
      have hfm : (Value.agg cs).formed P kt = true := by
        clear hr' hf' hf hr hk K h
        unfold Value.formed
        cases hu : P.underlying kt with
        | none => rw [hu] at hw; cases hw
        | some kd => rw [hu] at hw; cases kd <;> first | (simp at hw; done) | (simp [hl'])
      rw [hk, h1, hfm]
      simp only [Bool.and_self, if_true]
      rw [RD.keys _ kt y _ h2 hr']
      rfl
    refine ⟨_, key hr hf, fun {y v' H' S'} hr' hf' => ⟨fun e => ?_, fun e => ?_⟩⟩
    · subst e
      have e1 := RD.keys _ kt x _ h2 hr
      have e2 := RD.keys _ kt y _ h2 hr'
      rw [e1] at e2
      injection e2 with e2
      exact (RD.lits_inj _ kt x y _ _ h2 hr hr').2 e2
    · subst e
      exact K.inj (key hr hf) (key hr' hf')
  unfold keyOk at h
  split at h
  · rename_i q hu
    have ht : tyOf P kt = .i q := by simp [tyOf, hu]
    have key : ∀ {y : D} {v' : Value} {H' : Array Obj} {S' : Nat → Prop}, RD P H' S' (tyOf P kt) y v'.cells.toList → Formed P kt v' → ∃ n, y = .int q n ∧ v' = .int q n ∧ (Lit.int q n).wf = true := by
      intro y v' H' S' hr' hf'
      have h1 := hf'.2 (by rw [ht]; rfl)
      rw [h1, ht] at hr'
      generalize hc : (#[v'] : Array Value).toList = cs at hr'
      cases hr' with
      | @int _ n hw => simp at hc; exact ⟨n, rfl, hc, hw⟩
    obtain ⟨n, rfl, rfl, hw⟩ := key hr hf
    refine ⟨.int q n, by simp [keyOf, mapKey, hu, hw], fun {y v' H' S'} hr' hf' => ?_⟩
    obtain ⟨m, rfl, rfl, _⟩ := key hr' hf'
    simp
  · rename_i fs hu
    simp only [Bool.and_eq_true, decide_eq_true_eq] at h
    exact ag (by simp [tyOf, hu, Ty.isAg]) (fun v => by simp [keyOf, hu]) (by simp [tyOf, hu]) (by rw [hu]) h.1.1.1.2 h.2
  · rename_i n e hu
    simp only [Bool.and_eq_true, decide_eq_true_eq] at h
    exact ag (by simp [tyOf, hu, Ty.isAg]) (fun v => by simp [keyOf, hu]) (by simp [tyOf, hu]) (by rw [hu]) h.1.1.1.2 h.2
  · cases h

/-! ### The abstract map -/
theorem mapFind_at : ∀ {l : List (D × V)} {x : D} {j : Nat} {v : V}, l.Pairwise (fun p q => p.1 ≠ q.1) → l[j]? = some (x, v) → mapFind l x = some v
  | [], _, _, _, _, h => by simp at h
  | (k, y) :: l, x, j, v, hp, h => by
    obtain ⟨h1, h2⟩ := List.pairwise_cons.1 hp
    simp only [mapFind]
    cases j with
    | zero =>
      simp at h
      obtain ⟨rfl, rfl⟩ := h
      rw [if_pos ((D.beq_iff _ _).2 rfl)]
    | succ j =>
      have hm : (x, v) ∈ l := List.mem_of_getElem? (by simpa using h)
      rw [if_neg (fun e => h1 _ hm ((D.beq_iff _ _).1 e).symm)]
      exact mapFind_at h2 (by simpa using h)
theorem mapFind_no : ∀ {l : List (D × V)} {x : D}, (∀ p ∈ l, p.1 ≠ x) → mapFind l x = none
  | [], _, _ => rfl
  | (k, y) :: l, x, h => by
    simp only [mapFind]
    rw [if_neg (fun e => h (k, y) List.mem_cons_self ((D.beq_iff _ _).1 e).symm)]
    exact mapFind_no (fun p hp => h p (List.mem_cons_of_mem _ hp))
theorem mapPut_at : ∀ {l : List (D × V)} {x : D} {j : Nat} {v y : V}, l.Pairwise (fun p q => p.1 ≠ q.1) → l[j]? = some (x, v) → mapPut l x y = l.set j (x, y)
  | [], _, _, _, _, _, h => by simp at h
  | (k, z) :: l, x, j, v, y, hp, h => by
    obtain ⟨h1, h2⟩ := List.pairwise_cons.1 hp
    simp only [mapPut]
    cases j with
    | zero =>
      simp at h
      obtain ⟨rfl, rfl⟩ := h
      rw [if_pos ((D.beq_iff _ _).2 rfl)]
      rfl
    | succ j =>
      have hm : (x, v) ∈ l := List.mem_of_getElem? (by simpa using h)
      rw [if_neg (fun e => h1 _ hm ((D.beq_iff _ _).1 e).symm), mapPut_at h2 (by simpa using h)]
      rfl
theorem mapPut_no : ∀ {l : List (D × V)} {x : D} {y : V}, (∀ p ∈ l, p.1 ≠ x) → mapPut l x y = l ++ [(x, y)]
  | [], _, _, _ => rfl
  | (k, z) :: l, x, y, h => by
    simp only [mapPut]
    rw [if_neg (fun e => h (k, z) List.mem_cons_self ((D.beq_iff _ _).1 e).symm), mapPut_no (fun p hp => h p (List.mem_cons_of_mem _ hp))]
    rfl
theorem mapPut_keys : ∀ {l : List (D × V)} {x : D} {y : V} {p : D × V}, p ∈ mapPut l x y → p.1 = x ∨ ∃ q ∈ l, q.1 = p.1
  | [], x, y, p, h => by simp [mapPut] at h; exact .inl (by rw [h])
  | (k, z) :: l, x, y, p, h => by
    simp only [mapPut] at h
    split at h
    · rcases List.mem_cons.1 h with rfl | h
      · exact .inr ⟨(k, z), List.mem_cons_self, rfl⟩
      · exact .inr ⟨p, List.mem_cons_of_mem _ h, rfl⟩
    · rcases List.mem_cons.1 h with rfl | h
      · exact .inr ⟨(k, z), List.mem_cons_self, rfl⟩
      · rcases mapPut_keys h with e | ⟨q, hq, e⟩
        · exact .inl e
        · exact .inr ⟨q, List.mem_cons_of_mem _ hq, e⟩
theorem mapPut_apart : ∀ {l : List (D × V)} {x : D} {y : V}, l.Pairwise (fun p q => p.1 ≠ q.1) → (mapPut l x y).Pairwise (fun p q => p.1 ≠ q.1)
  | [], _, _, _ => by simp [mapPut]
  | (k, z) :: l, x, y, hp => by
    obtain ⟨h1, h2⟩ := List.pairwise_cons.1 hp
    simp only [mapPut]
    split
    · exact List.pairwise_cons.2 ⟨h1, h2⟩
    · rename_i hne
      refine List.pairwise_cons.2 ⟨fun p hpm => ?_, mapPut_apart h2⟩
      rcases mapPut_keys hpm with e | ⟨q, hq, e⟩
      · intro e'
        apply hne
        rw [D.beq_iff]
        exact (e'.trans e).symm
      · rw [← e]; exact h1 q hq

section
variable {E : Fr} {tys : Nat → TTy} {U : Nat → Prop} {s : St} {a : Act} {w : World} {o : Oper}
theorem go_mkm {d : Nat} {t kt et : TypeId} {v : V} {u : Hp} {n : Nat} (hr : Rel P E tys U s a w) (hU : ∀ h, s.next ≤ h → h < n → ¬ U h) (ho : o.op = .makeMap t none) (hd : o.dst = some d) (hlt : d < a.tmps.size) (hu : P.underlying t = some (.map kt et)) (hty : tys d = .o (.mp t))
    (he : eff (.mkm d) s.env s.g s.next = some (v, u, n)) : Goes P E tys U s o a w (s.after (some d) v u n) := by
  simp only [eff] at he; injection he with he; injection he with h1 h2; injection h2 with h2 h3; subst h1 h2 h3
  obtain ⟨ρ, own, hb⟩ := hr
  have hU' := hU _ (Nat.le_refl _) (Nat.lt_succ_self _)
  let L : Loc := { blk := some w.heap.size, row := false, off := 0, size := 0, ty := t }
  have hn : newLoc ρ s.next L s.next = some L := by simp [newLoc]
  refine .inl ⟨.map (some w.heap.size), w.alloc (.map #[] 0), exec_run (f := Instr.makeMap t none) (by simp [execOp, ho]) (by simp [Instr.makeMap]), newLoc ρ s.next L, newOwn own w.heap.size, ?_⟩
  rw [hd]
  refine hb.new hU' (ob := .map #[] 0) (L := L) (w' := w.alloc (.map #[] 0)) rfl ⟨rfl, rfl, rfl⟩ rfl ?_ (fun k hk => ?_)
  · refine ⟨L, w.heap.size, #[], 0, kt, et, hn, rfl, .inr rfl, ?_, hu, rfl, List.Pairwise.nil, fun i k v h => by simp at h⟩
    show (w.heap.push _)[w.heap.size]? = _
    simp
  · injection hk with hk; subst hk
    refine ⟨hlt, ?_⟩
    rw [hty]
    exact .mk (VS.of_single (.map hn rfl rfl) rfl rfl)

/-- What a map's handle leads to, and where a key is. -/
theorem map_find {ρ : Nat → Option Loc} {own : Nat → Prop} (hb : RelB P E tys U s a w ρ own) {t kt et : TypeId} (hu : P.underlying t = some (.map kt et)) (hk : keyOk P kt = true) {h : Nat} {l : List (D × V)} {mv : Value} (hm : VS P (cx E w.heap own ρ) (.mp t) (.map h) mv) (hg : s.g h = some (.mp l))
    {x : D} {kv : Value} (hr : RD P w.heap (cx E w.heap own ρ).S (tyOf P kt) x kv.cells.toList) (hf : Formed P kt kv) :
    ∃ L r es clock, ρ h = some L ∧ L.blk = some r ∧ L.ty = t ∧ own r ∧ mv = .map (some r) ∧ w.heap[r]? = some (.map es clock) ∧ es.size = l.length ∧ l.Pairwise (fun p q => p.1 ≠ q.1) ∧ (∀ em, (Instr.checkKey em 10000 kt kv).run P w = .ok () w) ∧ (Instr.keyThatStays kv kv).run P w = .ok kv w ∧
      (∀ (i : Nat) (k : D) (v : V), l[i]? = some (k, v) → ∃ e, es[i]? = some e ∧ RD P w.heap (cx E w.heap own ρ).S (tyOf P kt) k e.key.cells.toList ∧ Formed P kt e.key ∧ (v = .und ∨ (VR P (cx E w.heap own ρ) (tyOf P et) v e.val.cells.toList ∧ Formed P et e.val))) ∧
      (((Instr.findKey kt kv es.toList).run P w = .ok none w ∧ ∀ p ∈ l, p.1 ≠ x) ∨ ∃ j e v, (Instr.findKey kt kv es.toList).run P w = .ok (some (j, e.val)) w ∧ es[j]? = some e ∧ e.key = kv ∧ l[j]? = some (x, v)) := by
  obtain ⟨m1, _, m3⟩ := hm
  have hmv : ∃ L r, ρ h = some L ∧ L.blk = some r ∧ L.ty = t ∧ mv = .map (some r) := by
    have hc := m3 rfl
    rw [hc] at m1
    generalize hcs : (#[mv] : Array Value).toList = cs at m1
    cases m1 with
    | map k1 k2 k3 => simp at hcs; exact ⟨_, _, k1, k2, k3, hcs⟩
  obtain ⟨L, r, e1, e2, e3, rfl⟩ := hmv
  obtain ⟨L', r', es, clock, kt', et', k1, k2, k3, k4, k5, k6, k6', k7⟩ := hb.heap.blk h _ hg
  have k1 : ρ h = some L' := k1
  rw [e1] at k1; injection k1 with k1; subst k1
  rw [e2] at k2; injection k2 with k2; subst k2
  rw [e3, hu] at k5; injection k5 with k5; injection k5 with q1 q2; subst q1 q2
  have K := (keyOk.keyed hk)
  obtain ⟨lx, hlx, hiff⟩ := keyOk.read hk hr hf
  have hkeys : ∀ e ∈ es.toList, ∃ l, keyOf P kt e.key = some l := by
    intro e he
    obtain ⟨i, hi⟩ := List.getElem?_of_mem he
    have hi' : es[i]? = some e := by simpa using hi
    have hil : i < l.length := by rw [← k6]; exact (Array.getElem?_eq_some_iff.1 hi').1
    obtain ⟨e', g1, g2, g3, _⟩ := k7 i l[i].1 l[i].2 (by simp [hil])
    rw [hi'] at g1; injection g1 with g1; subst g1
    obtain ⟨q, hq, _⟩ := keyOk.read hk g2 g3
    exact ⟨q, hq⟩
  refine ⟨L, r, es, clock, e1, e2, e3, k3, rfl, k4, k6, k6', fun em => K.check w em hlx, K.stays w hlx, k7, ?_⟩
  rcases K.find w hlx es.toList hkeys with ⟨f1, f2⟩ | ⟨j, e, f1, f2, f3⟩
  · refine .inl ⟨f1, fun p hp e => ?_⟩
    obtain ⟨i, hi⟩ := List.getElem?_of_mem hp
    obtain ⟨e', g1, g2, g3, _⟩ := k7 i p.1 p.2 hi
    have hmem : e' ∈ es.toList := List.mem_of_getElem? (by simpa using g1)
    exact f2 e' hmem ((hiff g2 g3).2 e.symm).symm
  · have f2' : es[j]? = some e := by simpa using f2
    have hjl : j < l.length := by rw [← k6]; exact (Array.getElem?_eq_some_iff.1 f2').1
    obtain ⟨e', g1, g2, g3, _⟩ := k7 j l[j].1 l[j].2 (by simp [hjl])
    rw [f2'] at g1; injection g1 with g1; subst g1
    have hx : x = l[j].1 := (hiff g2 g3).1 f3.symm
    exact .inr ⟨j, e, l[j].2, f1, f2', f3, by rw [hx]; simp [hjl]⟩
end
end Go.Fw
namespace Go.Fw
open Go Go.RowKit
variable {P : Program}
section
variable {E : Fr} {tys : Nat → TTy} {U : Nat → Prop} {s : St} {a : Act} {w : World} {o : Oper}
theorem VS.of_formed {C : Ctx} {t : TypeId} {v : V} {x : Value} (h : VR P C (tyOf P t) v x.cells.toList) (hf : Formed P t x) : VS P C (tyOf P t) v x := ⟨h, hf⟩
theorem zc.formed {t : TypeId} {cs : List Value} (h : zc P t = some cs) (hg : tyGood P t = true) : True := trivial

theorem go_lk {d : Nat} {xm xk : Opd} {ym yk : Operand} {z : V} {ok : Bool} {t kt et : TypeId} {v : V} {u : Hp} {n : Nat} (hr : Rel P E tys U s a w) (ho : o.op = .lookup t ym yk ok) (hd : o.dst = some d) (hlt : d < a.tmps.size) (hu : P.underlying t = some (.map kt et)) (hk : keyOk P kt = true)
    (hcm : opdOk E.ft tys (.o (.mp t)) ym xm = true) (hck : opdOk E.ft tys (.o (tyOf P kt)) yk xk = true) {zv : Value} (hz : ∀ w : World, (zeroValue et).run P w = .ok zv w) (hzv : z = .und ∨ ∀ C : Ctx, VS P C (tyOf P et) z zv) (hty : tys d = if ok then .t [tyOf P et, .b] else .o (tyOf P et))
    (he : eff (.lk d xm xk z ok) s.env s.g s.next = some (v, u, n)) : Goes P E tys U s o a w (s.after (some d) v u n) := by
  simp only [eff] at he
  split at he
  · rename_i h x hvm hvk
    split at he
    · rename_i l hg
      have key : ∀ ρ own, RelB P E tys U s a w ρ own → VS P (cx E w.heap own ρ) (.mp t) (.map h) (a.eval ym) ∧ RD P w.heap (cx E w.heap own ρ).S (tyOf P kt) x (a.eval yk).cells.toList ∧ Formed P kt (a.eval yk) := by
        intro ρ own hb
        have h1 := opd_VT (P := P) (C := cx E w.heap own ρ) hcm hb.env
        rw [hvm] at h1
        have h2 := opd_VT (P := P) (C := cx E w.heap own ρ) hck hb.env
        have hne : (val s.env xk).isUnd = false := by
          cases hh : val s.env xk <;> first | rfl | (rw [hh] at hvk; simp [V.pure?] at hvk)
        have h2 := h2.vs hne
        exact ⟨h1.vs rfl, h2.1.pure hvk, h2.2⟩
      -- one run tells all
      obtain ⟨ρ0, own0, hb0⟩ := id hr
      obtain ⟨g1, g2, g3⟩ := key ρ0 own0 hb0
      obtain ⟨L, r, es, clock, _, _, _, _, e5, e6, _, e8, e9, _, e11, e12⟩ := map_find hb0 hu hk g1 hg g2 g3
      have hval : ∀ ρ own, RelB P E tys U s a w ρ own → ∀ (j : Nat) (e : MapEntry) (v : V), es[j]? = some e → l[j]? = some (x, v) → v = .und ∨ VS P (cx E w.heap own ρ) (tyOf P et) v e.val := by
        intro ρ own hb j e v hj hl
        obtain ⟨q1, q2, q3⟩ := key ρ own hb
        obtain ⟨L', r', es', clock', _, _, _, _, f5, f6, _, _, _, _, f11, _⟩ := map_find hb hu hk q1 hg q2 q3
        rw [e5] at f5; injection f5 with f5; injection f5 with f5; subst f5
        rw [e6] at f6; injection f6 with f6; injection f6 with f6 _; subst f6
        obtain ⟨e', p1, _, _, p4⟩ := f11 j x v hl
        rw [hj] at p1; injection p1 with p1; subst p1
        rcases p4 with p4 | ⟨p4, p5⟩
        · exact .inl p4
        · exact .inr ⟨p4, p5⟩
      have fin : ∀ (y : Value) (b : Bool) (vv : V), (Instr.lookup t (a.eval ym) (a.eval yk) ok).run P w = .ok (if ok then .tuple #[y, .bool b] else y) w → (∀ ρ own, RelB P E tys U s a w ρ own → vv = .und ∨ VS P (cx E w.heap own ρ) (tyOf P et) vv y) → some (v, u, n) = some (if ok then .tup [vv, .bool b] else vv, [], s.next) → Goes P E tys U s o a w (s.after (some d) v u n) := by
        intro y b vv hrun hv heq
        injection heq with heq; injection heq with q1 q2; injection q2 with q2 q3; subst q1 q2 q3
        refine Goes.pure hr (exec_run (f := Instr.lookup t (a.eval ym) (a.eval yk) ok) (by simp [execOp, ho]) hrun) hd hlt (fun ρ own hb => ?_)
        rw [hty]
        cases ok with
        | false =>
          simp only [Bool.false_eq_true, if_false]
          rcases hv ρ own hb with k | k
          · exact .inl k
          · exact .inr (.inr k)
        | true =>
          simp only [if_true]
          refine .inr (.inr ⟨[vv, .bool b], #[y, .bool b], rfl, rfl, rfl, rfl, fun i ty v' w' h1 h2 h3 => ?_⟩)
          match i with
          | 0 => simp at h1 h2 h3; subst h1 h2 h3; exact hv ρ own hb
          | 1 => simp at h1 h2 h3; subst h1 h2 h3; exact .inr VS.mk_bool
          | i + 2 => simp at h1
      rcases e12 with ⟨f1, f2⟩ | ⟨j, e, v0, f1, f2, f3, f4⟩
      · rw [mapFind_no f2] at he
        refine fin zv false z ?_ (fun ρ own hb => hzv.imp id (fun k => k _)) he.symm
        rw [e5]
        simp [Instr.lookup, run_underlying hu, MapKept.run_getObj_map e6, e9, f1, hz, Result.andThen]
      · rw [mapFind_at e8 f4] at he
        refine fin e.val true v0 ?_ (fun ρ own hb => hval ρ own hb j e v0 f2 f4) he.symm
        rw [e5]
        simp [Instr.lookup, run_underlying hu, MapKept.run_getObj_map e6, e9, f1, Result.andThen]
    · cases he
  · cases he

theorem Evo.setObj {H : Array Obj} {own : Nat → Prop} {ρ : Nat → Option Loc} {b : Nat} (hb : own b) (ob : Obj) : Evo H (H.setIfInBounds b ob) own own ρ ρ (fun x => x = b) where
  size := by simp
  same := fun c _ hc => by simp [Ne.symm hc]
  xOwn := fun x hx => by subst hx; exact hb
  mine := fun b hb => .inl hb
  keep := fun b hb _ => hb
  locs := fun h L e => e

theorem go_mu {xm xk xv : Opd} {ym yk yv : Operand} {t kt et : TypeId} {v : V} {u : Hp} {n : Nat} (hr : Rel P E tys U s a w) (ho : o.op = .mapUpdate t ym yk yv ∨ o.op = .insert t ym yk yv) (hd : o.dst = none) (hu : P.underlying t = some (.map kt et)) (hk : keyOk P kt = true)
    (hcm : opdOk E.ft tys (.o (.mp t)) ym xm = true) (hck : opdOk E.ft tys (.o (tyOf P kt)) yk xk = true) (hcv : opdOk E.ft tys (.o (tyOf P et)) yv xv = true)
    (he : eff (.mu xm xk xv) s.env s.g s.next = some (v, u, n)) : Goes P E tys U s o a w (s.after none v u n) := by
  simp only [eff] at he
  split at he
  · cases he
  rename_i hund
  have huv : (val s.env xv).isUnd = false := by simpa using hund
  split at he
  · rename_i h x hvm hvk
    split at he
    · rename_i l hg
      injection he with he; injection he with h1 h2; injection h2 with h2 h3; subst h1 h2 h3
      obtain ⟨ρ, own, hb⟩ := hr
      have h1 := opd_VT (P := P) (C := cx E w.heap own ρ) hcm hb.env
      rw [hvm] at h1
      have h1 := h1.vs rfl
      have h2 := opd_VT (P := P) (C := cx E w.heap own ρ) hck hb.env
      have hne : (val s.env xk).isUnd = false := by
        cases hh : val s.env xk <;> first | rfl | (rw [hh] at hvk; simp [V.pure?] at hvk)
      have h2 := h2.vs hne
      have h3 := (opd_VT (P := P) (C := cx E w.heap own ρ) hcv hb.env).vs huv
      have hrk := h2.1.pure hvk
      have hfk : Formed P kt (a.eval yk) := h2.2
      obtain ⟨L, r, es, clock, e1, e2, e3, e4, e5, e6, e7, e8, e9, e10, e11, e12⟩ := map_find hb hu hk h1 hg hrk hfk
      have eU : addU U s.next (s.after none .und [(h, .mp (mapPut l x (val s.env xv)))] s.next).next = U := addU_self
      have fin : ∀ (es' : Array MapEntry) (clock' : Nat), (Instr.mapUpdate t (a.eval ym) (a.eval yk) (a.eval yv)).run P w = .ok () { w with heap := w.heap.setIfInBounds r (.map es' clock') } → es'.size = (mapPut l x (val s.env xv)).length →
          (∀ (i : Nat) (k : D) (v : V), (mapPut l x (val s.env xv))[i]? = some (k, v) → ∃ e, es'[i]? = some e ∧ RD P w.heap (cx E w.heap own ρ).S (tyOf P kt) k e.key.cells.toList ∧ Formed P kt e.key ∧ (v = .und ∨ (VR P (cx E w.heap own ρ) (tyOf P et) v e.val.cells.toList ∧ Formed P et e.val))) →
          Goes P E tys U s o a w (s.after none .und [(h, .mp (mapPut l x (val s.env xv)))] s.next) := by
        intro es' clock' hrun hsz hent
        refine .inr ⟨_, exec_unit (f := Instr.mapUpdate t (a.eval ym) (a.eval yk) (a.eval yv)) (by rcases ho with ho | ho <;> simp [execOp, ho]) hrun, ?_⟩
        rw [eU, hd]
        have ev := Evo.setObj (H := w.heap) (own := own) (ρ := ρ) e4 (.map es' clock')
        have le := ev.le (E := E)
        refine ⟨ρ, own, ?_⟩
        have eU2 : U = addU U s.next s.next := addU_self.symm
        rw [eU2]
        refine hb.step (w' := { w with heap := w.heap.setIfInBounds r (.map es' clock') }) ev (Nat.le_refl _) ⟨rfl, rfl, rfl⟩ (fun b0 e0 => ⟨h, _, L, hg, rfl, e1, by rw [e0]; exact e2, by simp [ulast]⟩) (fun h L e => .inl e) (fun h' y e => ?_) (fun ha h2 y y' L1 L2 b0 c1 o1 r1 b1 r2 b2 o2 hh => ?_) (d := none) (v := .und) (x := undef) (fun k hk => by cases hk)
        · simp only [ulast] at e
          split at e
          · rename_i heq; subst heq; injection e with e; subst e
            refine ⟨L, r, es', clock', kt, et, e1, e2, e4, (MapKept.heap_set e6).1, by rw [e3]; exact hu, hsz, mapPut_apart e8, fun i k v hi => ?_⟩
            obtain ⟨e', p1, p2, p3, p4⟩ := hent i k v hi
            refine ⟨e', p1, p2.mono le, p3, ?_⟩
            rcases p4 with p4 | ⟨p4, p5⟩
            · exact .inl p4
            · exact .inr ⟨p4.mono le, p5⟩
          · cases e
        · simp only [ulast] at c1
          split at c1
          · rename_i heq; subst heq
            by_cases hn : h2 = h
            · exact hn.symm
            · rcases hh with hh | hh
              · simp only [ulast] at hh
                rw [if_neg (Ne.symm hn)] at hh; cases hh
              · exact hb.heap.apart h h2 _ _ L1 L2 b0 hg hh.2 rfl o2 r1 r2 b1 b2
          · cases c1
      rcases e12 with ⟨f1, f2⟩ | ⟨j, e, v0, f1, f2, f3, f4⟩
      · have hput := mapPut_no (y := val s.env xv) f2
        refine fin (es.push { key := a.eval yk, val := a.eval yv, born := clock }) (clock + 1) ?_ (by rw [hput]; simp [e7]) (fun i k v hi => ?_)
        · rw [e5]
          simp [Instr.mapUpdate, run_underlying hu, MapKept.run_getObj_map e6, e9, f1, MapKept.run_setObj_map _ e6, Result.andThen]
        · rw [hput] at hi
          by_cases hil : i < l.length
          · rw [List.getElem?_append_left hil] at hi
            obtain ⟨e', p1, p2⟩ := e11 i k v hi
            refine ⟨e', ?_, p2⟩
            rw [Array.getElem?_push, if_neg (by omega)]
            exact p1
          · rw [List.getElem?_append_right (by omega)] at hi
            have hi0 : i = l.length := by
              cases hq : i - l.length with
              | zero => omega
              | succ q => rw [hq] at hi; simp at hi
            subst hi0
            simp at hi
            obtain ⟨rfl, rfl⟩ := hi
            refine ⟨{ key := a.eval yk, val := a.eval yv, born := clock }, by rw [Array.getElem?_push, if_pos e7.symm], hrk, hfk, .inr h3⟩
      · have hput := mapPut_at (y := val s.env xv) e8 f4
        have hjs : j < es.size := (Array.getElem?_eq_some_iff.1 f2).1
        refine fin (es.modify j fun e => { e with key := a.eval yk, val := a.eval yv }) clock ?_ (by rw [hput]; simp [e7]) (fun i k v hi => ?_)
        · rw [e5]
          simp [Instr.mapUpdate, run_underlying hu, MapKept.run_getObj_map e6, e9, f1, f2, f3, e10, MapKept.run_setObj_map _ e6, Result.andThen]
        · rw [hput] at hi
          by_cases hij : i = j
          · subst hij
            rw [List.getElem?_set_self (by omega)] at hi
            injection hi with hi; injection hi with q1 q2; subst q1 q2
            refine ⟨{ e with key := a.eval yk, val := a.eval yv }, ?_, hrk, hfk, .inr h3⟩
            rw [Array.getElem?_modify, if_pos rfl, f2]; rfl
          · rw [List.getElem?_set_ne (Ne.symm hij)] at hi
            obtain ⟨e', p1, p2⟩ := e11 i k v hi
            refine ⟨e', ?_, p2⟩
            rw [Array.getElem?_modify, if_neg (Ne.symm hij)]
            exact p1
    · cases he
  · cases he
end
end Go.Fw
namespace Go.Fw
open Go Go.RowKit
variable {P : Program}
variable (P) in
/-- A zero that a map's look-up may give. -/
def zvOk (t : TypeId) (z : V) : Bool := match (P.info? t).bind (·.zero) with
  | some zv => (match zv with | .agg _ => (tyOf P t).isAg | _ => !(tyOf P t).isAg) && (match z with | .und => true | z => zOk P t z zv.cells.toList)
  | none => false
theorem zvOk.out {t : TypeId} {z : V} (h : zvOk P t z = true) : ∃ zv, (∀ w : World, (zeroValue t).run P w = .ok zv w) ∧ (z = .und ∨ ∀ C : Ctx, VS P C (tyOf P t) z zv) := by
  unfold zvOk at h
  split at h
  · rename_i zv hz
    rw [Option.bind_eq_some_iff] at hz
    obtain ⟨i, h1, h2⟩ := hz
    rw [Bool.and_eq_true] at h
    refine ⟨zv, fun w => by simp [zeroValue, typeInfo, h1, h2], ?_⟩
    obtain ⟨hf, hzz⟩ := h
    by_cases hu : z = .und
    · exact .inl hu
    · right
      have hzo : zOk P t z zv.cells.toList = true := by
        cases z <;> first | exact absurd rfl hu | exact hzz
      intro C
      refine ⟨zOk.out hzo, ?_, ?_⟩
      · intro ha
        cases zv <;> first | exact ⟨_, rfl⟩ | (simp [ha] at hf; done)
      · intro ha
        cases zv <;> first | rfl | (simp [ha] at hf; done)
  · cases h

/-! ### Function values -/
def clsOk (ft : Nat → List Ty × List Ty × List (Nat × TypeId)) (tys : Nat → TTy) : List Ty → List Operand → List Opd → Bool
  | _, [], [] => true
  | t :: ts, y :: ys, x :: xs => !t.isAg && opdOk ft tys (.o t) y x && clsOk ft tys ts ys xs
  | _, _, _ => false
def mkfOk (ft : Nat → List Ty × List Ty × List (Nat × TypeId)) (tys : Nat → TTy) (td : TTy) (f : Nat) (fs cs : List Operand) (xs ys : List Opd) : Bool :=
  clsOk ft tys (ft f).1 fs xs && clsOk ft tys (ft f).2.1 cs ys && decide (ys.length = (ft f).2.1.length) && (match td with | .o (.fn t) => (ft f).2.2.contains (xs.length, t) | _ => false)
section
variable {E : Fr} {tys : Nat → TTy} {U : Nat → Prop} {s : St} {a : Act} {w : World} {o : Oper}
theorem clsOk.out {C : Ctx} (henv : ∀ i, VT P C (tys i) (look s.env i) (a.tmps.getD i undef)) : ∀ {ts : List Ty} {ys : List Operand} {xs : List Opd}, clsOk C.ft tys ts ys xs = true → (xs.map (val s.env)).any V.isUnd = false →
    ys.length = xs.length ∧ xs.length ≤ ts.length ∧ (∀ (i : Nat) (ty : Ty), i < xs.length → ts[i]? = some ty → ty.isAg = false) ∧ ∀ (i : Nat) (ty : Ty) (v : V) (c : Value), ts[i]? = some ty → (xs.map (val s.env))[i]? = some v → (ys.map a.eval)[i]? = some c → c.cells = #[c] ∧ VR P C ty v [c]
  | ts, [], [], _, _ => ⟨rfl, Nat.zero_le _, fun i ty h => by simp at h, fun i ty v c _ h => by simp at h⟩
  | t :: ts, y :: ys, x :: xs, h, hu => by
    simp only [clsOk, Bool.and_eq_true, Bool.not_eq_true'] at h
    simp only [List.map_cons, List.any_cons, Bool.or_eq_false_iff] at hu
    obtain ⟨k1, k2, k3, k4⟩ := clsOk.out henv h.2 hu.2
    have hv := (opd_VT (P := P) (C := C) h.1.2 henv).vs hu.1
    have hc := hv.2.2 h.1.1
    refine ⟨by simp [k1], by simp only [List.length_cons]; omega, fun i ty hi ht => ?_, fun i ty v c ht hvv hc' => ?_⟩
    · cases i with
      | zero => simp at ht; subst ht; exact h.1.1
      | succ i => exact k3 i ty (by simpa using hi) (by simpa using ht)
    · cases i with
      | zero =>
        simp at ht hvv hc'
        subst ht hvv hc'
        refine ⟨hc, ?_⟩
        have h1 := hv.1
        rw [hc] at h1
        exact h1
      | succ i => exact k4 i ty v c (by simpa using ht) (by simpa using hvv) (by simpa using hc')
  | [], _ :: _, _, h, _ => by simp [clsOk] at h
  | _, [], _ :: _, h, _ => by simp [clsOk] at h
  | _ :: _, _ :: _, [], h, _ => by simp [clsOk] at h
theorem go_mkf {d f : Nat} {xs ys : List Opd} {fs cs : Array Operand} {v : V} {u : Hp} {n : Nat} (hr : Rel P E tys U s a w) (ho : o.op = .makeFunc (.func f) fs cs) (hd : o.dst = some d) (hlt : d < a.tmps.size) (h : mkfOk E.ft tys (tys d) f fs.toList cs.toList xs ys = true)
    (he : eff (.mkf d f xs ys) s.env s.g s.next = some (v, u, n)) : Goes P E tys U s o a w (s.after (some d) v u n) := by
  simp only [eff] at he
  split at he
  · cases he
  · rename_i hu
    rw [Bool.or_eq_true, not_or, Bool.not_eq_true, Bool.not_eq_true] at hu
    injection he with he; injection he with h1 h2; injection h2 with h2 h3; subst h1 h2 h3
    simp only [mkfOk, Bool.and_eq_true, decide_eq_true_eq] at h
    obtain ⟨⟨⟨h1, h2⟩, h3⟩, h4⟩ := h
    refine Goes.pure hr (x := .func (.func f) (fs.map a.eval) (cs.map a.eval)) (exec_run (f := Instr.makeFunc (.func f) (fs.map a.eval) (cs.map a.eval)) (by simp [execOp, ho]) (by simp [Instr.makeFunc])) hd hlt (fun ρ own hb => ?_)
    split at h4
    · rename_i t ht
      rw [ht]
      obtain ⟨k1, k2, k3, k4⟩ := clsOk.out (P := P) (C := cx E w.heap own ρ) hb.env h1 hu.1
      obtain ⟨m1, m2, m3, m4⟩ := clsOk.out (P := P) (C := cx E w.heap own ρ) hb.env h2 hu.2
      have hfa : ∀ (i : Nat), (fs.map a.eval)[i]? = (fs.toList.map a.eval)[i]? := fun i => by simp
      have hca : ∀ (i : Nat), (cs.map a.eval)[i]? = (cs.toList.map a.eval)[i]? := fun i => by simp
      have h4' : (xs.length, t) ∈ (E.ft f).2.2 := by simpa using h4
      refine .mk (VS.of_single (.clo (by rw [List.length_map]; exact h4') (by rw [List.length_map]; exact k2) (by rw [List.length_map]; exact h3) (by simpa using k1) (by simpa using m1) (fun i c hc => ?_) (fun i c hc => ?_) (fun i ty hi ht => ?_) (fun i ty ht => ?_) (fun i ty v c ht hv hc => ?_) (fun i ty v c ht hv hc => ?_)) rfl rfl)
      · rw [hfa] at hc
        have hi : i < xs.length := by have := (List.getElem?_eq_some_iff.1 hc).1; simp at this k1; omega
        exact (k4 i _ _ c (List.getElem?_eq_getElem (by omega)) (List.getElem?_eq_getElem (by simpa using hi)) hc).1
      · rw [hca] at hc
        have hi : i < ys.length := by have := (List.getElem?_eq_some_iff.1 hc).1; simp at this m1; omega
        exact (m4 i _ _ c (List.getElem?_eq_getElem (by omega)) (List.getElem?_eq_getElem (by simpa using hi)) hc).1
      · exact k3 i ty (by simpa using hi) ht
      · exact m3 i ty (by rw [h3]; exact (List.getElem?_eq_some_iff.1 ht).1) ht
      · rw [hfa] at hc; exact (k4 i ty v c ht hv hc).2
      · rw [hca] at hc; exact (m4 i ty v c ht hv hc).2
    · cases h4

/-! ### Clear -/
theorem zeroCells_seg {z : Array Value} {n i : Nat} (hi : i < n) : seg (Builtin.zeroCells z n).toList (i * z.size) z.size = z.toList := by
  have hp := mul_part (s := z.size) hi
  apply List.ext_getElem?
  intro k
  unfold seg
  rw [List.getElem?_take]
  split
  · rename_i hk
    rw [List.getElem?_drop, Array.getElem?_toList, Array.getElem?_toList]
    simp only [Builtin.zeroCells, Array.getElem?_map]
    rw [Array.getElem?_range]
    rw [if_pos (by omega)]
    simp only [Option.map_some]
    have : (i * z.size + k) % z.size = k := by rw [Nat.add_comm, Nat.add_mul_mod_self_right, Nat.mod_eq_of_lt hk]
    rw [this]
    simp [hk]
  · rename_i hk
    rw [List.getElem?_eq_none (by simpa using hk)]
theorem go_clr {x : Opd} {y : Operand} {zd : D} {t e : TypeId} {v : V} {u : Hp} {n : Nat} {zcs : List Value} (hr : Rel P E tys U s a w) (ho : o.op = .call { callee := .builtin .clear, args := #[y], argTypes := #[t] }) (hd : o.dst = none)
    (hu : P.underlying t = some (.slice e)) (hg : tyGood P e = true) (hz : zc P e = some zcs) (hzl : zcs.length = tySize P (tyOf P e)) (hzd : dOk P 20 e zd zcs = true) (hc : opdOk E.ft tys (.o (.sl e)) y x = true)
    (he : eff (.clr zd x) s.env s.g s.next = some (v, u, n)) : Goes P E tys U s o a w (s.after none v u n) := by
  simp only [eff] at he
  split at he
  · rename_i u' hu'
    injection he with he; injection he with h1 h2; injection h2 with h2 h3; subst h1 h2 h3
    unfold clearV at hu'
    split at hu'
    · rename_i nl h off len hxv
      split at hu'
      · rename_i l hgl
        split at hu'
        · cases hu'
        · rename_i hbd
          injection hu' with hu'; subst hu'
          obtain ⟨ρ, own, hb⟩ := hr
          have hx := opd_VT (P := P) (C := cx E w.heap own ρ) hc hb.env
          rw [hxv] at hx
          obtain ⟨e', e1, L, k1, k2, k3, k4⟩ := (hx.vs rfl).sl
          injection e1 with e1; subst e1
          have k1 : ρ h = some L := k1
          obtain ⟨z, hz1, hz2, ie, hi1, hi2⟩ := zc.run hz w
          have hzs : z.cells.size = tySize P (tyOf P e) := by rw [← hz2] at hzl; simpa using hzl
          have eU : U = addU U s.next s.next := addU_self.symm
          have eU' : addU U s.next (s.after none .und [(h, .row true (l.take off ++ List.replicate len zd ++ l.drop (off + len)))] s.next).next = U := addU_self
          have hrow := hb.heap.blk h _ hgl
          have fin : ∀ (w' : World) (X : Nat → Prop), (Builtin.clear_ #[t] o.type #[a.eval y]).run P w = .ok (.tuple #[]) w' → Evo w.heap w'.heap own own ρ ρ X → (∀ b, X b → L.blk = some b) → (w'.os = w.os ∧ w'.tape = w.tape ∧ w'.output = w.output) →
              BR P (cx E w'.heap own ρ) own h (.row true (l.take off ++ List.replicate len zd ++ l.drop (off + len))) → Goes P E tys U s o a w (s.after none .und [(h, .row true (l.take off ++ List.replicate len zd ++ l.drop (off + len)))] s.next) := by
            intro w' X hrun ev hX hos hbr
            refine .inl ⟨.tuple #[], w', by simp [execOp, ho, resolve, invoke, builtin, hrun], ?_⟩
            rw [eU', hd]
            refine ⟨ρ, own, ?_⟩
            rw [eU]
            refine hb.step (x := .tuple #[]) ev (Nat.le_refl _) hos (fun b0 e0 => ⟨h, _, L, hgl, rfl, k1, hX b0 e0, by simp [ulast]⟩) (fun h L e => .inl e) (fun h' y e => ?_) (fun ha h2 y y' L1 L2 b0 c1 o1 r1 b1 r2 b2 o2 hh => ?_) (d := none) (v := .und) (fun k hk => by cases hk)
            · simp only [ulast] at e
              split at e
              · rename_i heq; subst heq; injection e with e; subst e; exact hbr
              · cases e
            · simp only [ulast] at c1
              split at c1
              · rename_i heq; subst heq
                by_cases hn : h2 = h
                · exact hn.symm
                · rcases hh with hh | hh
                  · simp only [ulast] at hh
                    rw [if_neg (Ne.symm hn)] at hh; cases hh
                  · exact hb.heap.apart h h2 _ _ L1 L2 b0 hgl hh.2 rfl o2 r1 r2 b1 b2
              · cases c1
          have same : len = 0 → (Builtin.clear_ #[t] o.type #[a.eval y]).run P w = .ok (.tuple #[]) w → Goes P E tys U s o a w (s.after none .und [(h, .row true (l.take off ++ List.replicate len zd ++ l.drop (off + len)))] s.next) := by
            intro h0 hrun
            refine fin w (fun _ => False) hrun ⟨Nat.le_refl _, fun _ _ _ => rfl, fun _ h => h.elim, fun _ h => .inl h, fun _ h _ => h, fun _ _ h => h⟩ (fun _ h => h.elim) ⟨rfl, rfl, rfl⟩ ?_
            subst h0
            simpa using hrow
          rcases k4 with ⟨_, h0, hv⟩ | ⟨_, ad, cap, hv, r1, r2, r3⟩
          · refine same h0 ?_
            rw [hv]
            simp [Builtin.clear_, run_underlying hu, Result.andThen]
          · by_cases h0 : len = 0
            · refine same h0 ?_
              subst h0
              rw [hv]
              simp [Builtin.clear_, run_underlying hu, Result.andThen]
            · rcases r3 with r3 | ⟨b, r3, r4, r5⟩
              · omega
              · obtain ⟨L', j1, j2, j3⟩ := hrow
                have j1 : ρ h = some L' := j1
                rw [k1] at j1; injection j1 with j1; subst j1
                rcases j3 with ⟨_, j3⟩ | ⟨b', c, te, i1, i2, i3, i4, i5, i6⟩
                · rw [r3] at j3; cases j3
                · rw [r3] at i1; injection i1 with i1; subst i1
                  simp only [if_true] at i5
                  have i2 : w.heap[b]? = some (.cells c te (0, 0)) := i2
                  rw [k3] at i4 i6
                  generalize hszd : tySize P (tyOf P e) = sz at *
                  have hle : (off + len) * sz ≤ l.length * sz := Nat.mul_le_mul_right _ (by omega)
                  rw [Nat.add_mul] at hle
                  have hnl : (Builtin.zeroCells z.cells len).toList.length = len * sz := by simp [size_zeroCells, hzs]
                  have hbound : L.off + off * sz + (Builtin.zeroCells z.cells len).toList.length ≤ c.size := by rw [hnl]; omega
                  have hRz : RD P w.heap (cx E w.heap own ρ).S (tyOf P e) zd z.cells.toList := by rw [hz2]; exact dOk.out 20 e zd zcs hzd
                  have hone : ∀ x ∈ (Builtin.zeroCells z.cells len).toList, x.oneCell' = true := by
                    refine one_of_parts (n := len) (sz := sz) hnl (fun i hi => ?_)
                    have := zeroCells_seg (z := z.cells) hi
                    rw [hzs] at this
                    rw [this]
                    exact hRz.one
                  have hst := run_storeCells_at (P := P) b (L.off + off * sz) te (Builtin.zeroCells z.cells len).toList 0 c w i2 (by simpa using hbound) hone
                  simp only [Nat.add_zero] at hst
                  have ev := Evo.setRow (w := w) (own := own) (ρ := ρ) i5 (splice c.toList (L.off + off * sz) (Builtin.zeroCells z.cells len).toList).toArray
                  have le := ev.le (E := E)
                  have hspl := splice_length (c := c.toList) (x := (Builtin.zeroCells z.cells len).toList) (o := L.off + off * sz) (by simpa using hbound)
                  refine fin _ _ ?_ ev (fun b0 e0 => by rw [e0]; exact r3) ⟨rfl, rfl, rfl⟩ ?_
                  · rw [hv, r4]
                    cases len with
                    | zero => exact absurd rfl h0
                    | succ len =>
                      simp [Builtin.clear_, run_underlying hu, Result.andThen, hz1]
                      rw [hst]
                      rfl
                  · refine ⟨L, k1, k2, .inr ⟨b, _, te, r3, setRow_heap w b c _ te (0, 0) i2, by simpa [hspl] using i3, ?_, i5, fun i dd hdd => ?_⟩⟩
                    · rw [k3, hszd]
                      simp only [List.size_toArray, hspl, Array.length_toList, List.length_append, List.length_take, List.length_replicate, List.length_drop]
                      have : min off l.length + len + (l.length - (off + len)) = l.length := by omega
                      rw [this]; exact i4
                    · rw [k3, hszd]
                      show RD P _ _ (tyOf P e) dd (seg (splice c.toList (L.off + off * sz) (Builtin.zeroCells z.cells len).toList) (L.off + i * sz) sz)
                      by_cases hio : i < off
                      · have hip := mul_part (s := sz) hio
                        rw [seg_splice_apart (by simpa using hbound) (by omega)]
                        rw [List.append_assoc, List.getElem?_append_left (by simp; omega), List.getElem?_take, if_pos hio] at hdd
                        exact (i6 i dd hdd).mono le
                      · by_cases hil : i < off + len
                        · rw [List.append_assoc, List.getElem?_append_right (by simp; omega), List.getElem?_append_left (by simp; omega)] at hdd
                          have hdz : dd = zd := by
                            rw [List.getElem?_replicate] at hdd
                            split at hdd
                            · injection hdd with hdd; exact hdd.symm
                            · cases hdd
                          subst hdz
                          have e1 : L.off + i * sz = L.off + off * sz + (i - off) * sz := by
                            have : i * sz = off * sz + (i - off) * sz := by rw [← Nat.add_mul]; congr 1; omega
                            omega
                          have hip := mul_part (s := sz) (show i - off < len by omega)
                          rw [e1, ← seg_seg (n := (Builtin.zeroCells z.cells len).toList.length) (by rw [hnl]; exact hip), seg_splice_same (by simpa using hbound)]
                          have := zeroCells_seg (z := z.cells) (show i - off < len by omega)
                          rw [hzs] at this
                          rw [this]
                          exact hRz.mono le
                        · have hge : off + len ≤ i := by omega
                          have : (off + len) * sz ≤ i * sz := Nat.mul_le_mul_right _ hge
                          rw [Nat.add_mul] at this
                          rw [seg_splice_apart (by simpa using hbound) (by rw [hnl]; omega)]
                          have e2 : (l.take off ++ List.replicate len zd ++ l.drop (off + len))[i]? = l[i]? := by
                            rw [List.getElem?_append_right (by simp; omega), List.getElem?_drop]
                            congr 1
                            simp
                            omega
                          rw [e2] at hdd
                          exact (i6 i dd hdd).mono le
      · cases hu'
    · cases hu'
  · cases he

/-! ### Nothing that is nil -/
theorem nil0 {ρ : Nat → Option Loc} {own : Nat → Prop} {e : TypeId} {X : V} {x : Value} (hx : VT P (cx E w.heap own ρ) (.o (.sl e)) X x) (h : isNil0 X = true) : x = .slice none 0 0 := by
  unfold isNil0 at h
  split at h
  · obtain ⟨e', e1, h⟩ := (hx.vs rfl).dsl
    rcases h with ⟨_, _, h⟩ | ⟨h, _⟩
    · exact h
    · cases h
  · obtain ⟨e', e1, h⟩ := (hx.vs rfl).asl
    rcases h with ⟨_, _, h⟩ | ⟨h, _⟩
    · exact h
    · cases h
  · cases h
theorem go_cap {d : Nat} {x : Opd} {y : Operand} {t e : TypeId} {v : V} {u : Hp} {n : Nat} (hr : Rel P E tys U s a w) (ho : o.op = .call { callee := .builtin .cap, args := #[y], argTypes := #[t] }) (hd : o.dst = some d) (hlt : d < a.tmps.size)
    (hu : P.underlying t = some (.slice e)) (hc : opdOk E.ft tys (.o (.sl e)) y x = true) (hty : tys d = .o (.i .i64)) (he : eff (.cap d x) s.env s.g s.next = some (v, u, n)) : Goes P E tys U s o a w (s.after (some d) v u n) := by
  obtain ⟨ρ0, own0, hb0⟩ := id hr
  have hy := opd_VT (P := P) (C := cx E w.heap own0 ρ0) hc hb0.env
  have key : isNil0 (val s.env x) = true ∧ v = .int .i64 0 ∧ u = [] ∧ n = s.next := by
    simp only [eff] at he
    split at he
    · rename_i k
      injection he with he; injection he with h1 h2; injection h2 with h2 h3
      rw [k]; exact ⟨rfl, h1.symm, h2.symm, h3.symm⟩
    · rename_i k
      injection he with he; injection he with h1 h2; injection h2 with h2 h3
      rw [k]; exact ⟨rfl, h1.symm, h2.symm, h3.symm⟩
    · cases he
  obtain ⟨h1, rfl, rfl, rfl⟩ := key
  have hv := nil0 hy h1
  refine Goes.pure hr (x := .int .i64 0) ?_ hd hlt (fun ρ own _ => by rw [hty]; exact .mk (VS.mk_int rfl))
  simp [execOp, ho, resolve, invoke, builtin, Builtin.cap_, hv, Sem.run_pure, run_underlying hu, goInt]
theorem append_zeros {t t2 ty e : TypeId} {k0 : IntKind} {i : TypeInfo} {z : Value} (ht : P.underlying t = some (.slice e)) (ht2 : P.underlying t2 = some (.int k0)) (hg : tyGood P e = true) (hi : P.info? e = some i) (hz : i.zero = some z) (hby : i.bytes ≤ 131072) {k : IntKind} {a : Int}
    (h0 : 0 < a) (hm : a ≤ 1073741824) (hsz : 0 < tySize P (tyOf P e)) :
    (Builtin.append_ #[t, t2] ty #[.slice none 0 0, .int k a]).run P w =
      .ok (.slice (some ⟨w.heap.size, 0, none⟩) a.toNat (grownCap w a.toNat 0 e)) (w.drew.alloc (.cells (Builtin.zeroCells z.cells a.toNat ++ Builtin.zeroCells z.cells (grownCap w a.toNat 0 e - a.toNat)) e)) := by
  have hw : IntKind.i64.wrap a = a := by rw [IntKind.wrap_i64]; omega
  have hn : ¬ a < 0 := by omega
  have hn2 : ¬ a.toNat = 0 := by omega
  have hb2 : a * (i.bytes : Int) ≤ 1073741824 * 131072 := Int.mul_le_mul hm (by omega) (by omega) (by omega)
  have hb1 : a.toNat * i.bytes ≤ 1073741824 * 131072 := Nat.mul_le_mul (by omega) hby
  have h48 : ¬ (281474976710656 < a * (i.bytes : Int)) := by omega
  have hfit := growslice_fits (need := a.toNat) (old := 0) (by omega) (bytes := i.bytes) (by omega)
  have h48' : ¬ (281474976710656 < Builtin.nextslicecap a.toNat 0 * i.bytes) := by omega
  have h63' : ¬ (9223372036854775807 < (a.toNat : Int)) := by omega
  have hs : (sizeOf e).run P w = .ok (tySize P (tyOf P e)) w := tyGood.size hg w
  have hs0 : ¬ tySize P (tyOf P e) = 0 := by omega
  have hn3 : ¬ a ≤ 0 := by omega
  have hmx : ¬ 9223372036854775807 < max a 0 := by omega
  have hmu : ¬ a.toNat * tySize P (tyOf P e) = 0 := Nat.mul_ne_zero hn2 hs0
  have fc : (Builtin.firstCells (tySize P (tyOf P e)) 0 (.slice none 0 0)).run P w.drew = .ok #[] w.drew := run_firstCells_none w.drew _ _ _ _
  simp [Builtin.append_, asInt, asIntOf, run_underlying ht, run_underlying ht2, hs, typeInfo, zeroValue, hi, hz, hw, hn, hn2, hs0, hn3, hmx, hmu, h48, h48', h63', Question.forced, newRow, grownCap, fc]
theorem go_apz {d : Nat} {x x2 : Opd} {zd : D} {y y2 : Operand} {t t2 e : TypeId} {k0 : IntKind} {v : V} {u : Hp} {n : Nat} {zcs : List Value} (hr : Rel P E tys U s a w) (hU : ∀ h, s.next ≤ h → h < n → ¬ U h) (ho : o.op = .call { callee := .builtin .append, args := #[y, y2], argTypes := #[t, t2] }) (hd : o.dst = some d) (hlt : d < a.tmps.size)
    (hu : P.underlying t = some (.slice e)) (hu2 : P.underlying t2 = some (.int k0)) (hg : tyGood P e = true) (hz : zc P e = some zcs) (hzl : zcs.length = tySize P (tyOf P e)) (hzd : dOk P 20 e zd zcs = true) (hby : bytesOk P e = true) (hsz : 0 < tySize P (tyOf P e))
    (hc : opdOk E.ft tys (.o (.sl e)) y x = true) (hc2 : intOk E.ft tys y2 x2 = true) (hty : tys d = .o (.sl e))
    (he : eff (.apz d x zd x2) s.env s.g s.next = some (v, u, n)) : Goes P E tys U s o a w (s.after (some d) v u n) := by
  simp only [eff] at he
  split at he
  · rename_i k1 m1 hn0 hv1
    split at he
    · rename_i hbd
      injection he with he; injection he with h1 h2; injection h2 with h2 h3; subst h1 h2 h3
      obtain ⟨ρ, own, hb⟩ := hr
      have hx := opd_VT (P := P) (C := cx E w.heap own ρ) hc hb.env
      have hv := nil0 hx hn0
      obtain ⟨z, hz1, hz2, ie, hi1, hi2⟩ := zc.run hz w
      obtain ⟨kl, hkl⟩ := intOk.out hc2
      have e1 := opd_VT (P := P) (C := cx E w.heap own ρ) hkl hb.env
      rw [hv1] at e1
      have q1 := e1.int.2.1
      unfold mostLen at hbd
      have hbytes : ie.bytes ≤ 131072 := by
        unfold bytesOk at hby
        rw [hi1] at hby
        simpa using hby
      have hzs : z.cells.size = tySize P (tyOf P e) := by rw [← hz2] at hzl; simpa using hzl
      have hrun := append_zeros (P := P) (ty := o.type) (w := w) hu hu2 hg hi1 hi2 hbytes (k := k1) hbd.1 hbd.2 hsz
      have hcap := grownCap_ge w m1.toNat 0 e
      have hcapm := grownCap_le_maxLen w m1.toNat 0 e (by simp only [maxLen]; omega)
      generalize grownCap w m1.toNat 0 e = nc at *
      have hex : (execOp a.eval o).run P w = .ok (.value (.slice (some ⟨w.heap.size, 0, none⟩) m1.toNat nc)) (w.drew.alloc (.cells (Builtin.zeroCells z.cells m1.toNat ++ Builtin.zeroCells z.cells (nc - m1.toNat)) e)) := by
        simp [execOp, ho, resolve, invoke, builtin, hv, q1, hrun]
      have hsize : (Builtin.zeroCells z.cells m1.toNat ++ Builtin.zeroCells z.cells (nc - m1.toNat)).size = nc * tySize P (tyOf P e) := by
        simp only [Array.size_append, size_zeroCells, hzs, ← Nat.add_mul]
        congr 1
        omega
      have hfin := hb.newRow (w' := w.drew.alloc (.cells (Builtin.zeroCells z.cells m1.toNat ++ Builtin.zeroCells z.cells (nc - m1.toNat)) e)) (r := Builtin.zeroCells z.cells m1.toNat ++ Builtin.zeroCells z.cells (nc - m1.toNat)) (e := e) (ds := List.replicate m1.toNat zd) (cap := nc) (dh := none) rfl ⟨rfl, rfl, rfl⟩ (hU _ (Nat.le_refl _) (Nat.lt_succ_self _))
        (by rw [hsize]; exact Nat.le_refl _) (by simpa using hcap) hcapm (fun i dd hdd => by
          have hi := (List.getElem?_eq_some_iff.1 hdd).1
          rw [List.length_replicate] at hi
          have : dd = zd := by
            rw [List.getElem?_replicate, if_pos hi] at hdd
            injection hdd with hdd; exact hdd.symm
          subst this
          rw [Array.toList_append, seg_append_left (by
            have hp := mul_part (s := tySize P (tyOf P e)) hi
            have hl : (Builtin.zeroCells z.cells m1.toNat).toList.length = m1.toNat * tySize P (tyOf P e) := by simp [size_zeroCells, hzs]
            rw [hl]; exact hp)]
          have hseg := zeroCells_seg (z := z.cells) (n := m1.toNat) (i := i) hi
          rw [hzs] at hseg
          rw [hseg, hz2]
          exact dOk.out 20 e dd _ hzd) hlt hty
      refine .inl ⟨_, _, hex, ?_⟩
      rw [hd]
      simp only [List.length_replicate, dead, List.nil_append] at hfin
      exact ⟨_, _, hfin⟩
    · cases he
  · cases he

/-! ### A string as bytes -/
theorem go_tob {d : Nat} {x : Opd} {y : Operand} {src dst e : TypeId} {v : V} {u : Hp} {n : Nat} (hr : Rel P E tys U s a w) (ho : o.op = .convert src dst y) (hd : o.dst = some d) (hlt : d < a.tmps.size)
    (hs : P.underlying src = some .string) (hds : P.underlying dst = some (.slice e)) (he8 : P.underlying e = some (.int .u8)) (hc : opdOk E.ft tys (.o .s) y x = true) (hty : tys d = .o (.sl e))
    (he : eff (.tob d x) s.env s.g s.next = some (v, u, n)) : Goes P E tys U s o a w (s.after (some d) v u n) := by
  simp only [eff] at he
  split at he
  · rename_i l hv
    split at he
    · rename_i hl
      injection he with he; injection he with h1 h2; injection h2 with h2 h3; subst h1 h2 h3
      obtain ⟨ρ, own, hb⟩ := hr
      have hx := opd_VT (P := P) (C := cx E w.heap own ρ) hc hb.env
      rw [hv] at hx
      have q : a.eval y = .string ⟨l.toArray⟩ := by
        rcases (hx.vs rfl).str with k | ⟨l', k, _, q⟩
        · cases k
        · injection k with k; injection k with k; subst k; exact q
      have hrun := run_bytes_of_string (P := P) w src dst e ⟨l.toArray⟩ hs hds he8
      have hsz : (ByteArray.mk l.toArray).size = l.length := by simp [ByteArray.size]
      rw [hsz] at hrun
      unfold mostLen at hl
      have hcap := grownCap_ge w l.length 0 e
      have hcapm := grownCap_le_maxLen w l.length 0 e (by simp only [maxLen]; omega)
      generalize grownCap w l.length 0 e = nc at *
      have hex : (execOp a.eval o).run P w = .ok (.value (.slice (some ⟨w.heap.size, 0, none⟩) l.length nc)) _ := exec_run (f := convert src dst (a.eval y)) (by simp [execOp, ho]) (by rw [q]; exact hrun)
      generalize hfr : ((bytesRow ⟨l.toArray⟩ nc).size, (bytesRow ⟨l.toArray⟩ nc).size + 1) = fr at *
      have hrow : ∀ i, i < l.length → seg (bytesRow ⟨l.toArray⟩ nc).toList i 1 = [Value.int .u8 ((l.getD i 0).toNat : Int)] := by
        intro i hi
        apply List.ext_getElem?
        intro j
        rw [seg_getElem?]
        cases j with
        | zero =>
          rw [if_pos (by omega)]
          simp [bytesRow, List.getD, List.getElem?_append_left, hi, List.getElem?_eq_getElem hi]
        | succ j => simp
      have ety : tyOf P e = .i .u8 := by unfold tyOf; rw [he8]
      have ev : Evo w.heap (w.heap.push (.cells (bytesRow ⟨l.toArray⟩ nc) e fr)) own own ρ ρ (fun _ => False) := ⟨by simp, fun b hb' _ => by simp [Array.getElem?_push, Nat.ne_of_lt hb'], fun _ h => h.elim, fun _ h => .inl h, fun _ h _ => h, fun _ _ h => h⟩
      have e0 : U = addU U s.next s.next := addU_self.symm
      refine .inl ⟨_, _, hex, ?_⟩
      rw [hd]
      refine ⟨ρ, own, ?_⟩
      show RelB P E tys (addU U s.next s.next) _ _ _ ρ own
      refine hb.step (w' := w.drew.alloc (.cells (bytesRow ⟨l.toArray⟩ nc) e fr)) ev (Nat.le_refl _) ⟨rfl, rfl, rfl⟩ (u := []) (fun _ h => h.elim) (fun h L e => .inl e) (fun h x e => by simp [ulast] at e) (fun h h' x x' L L' b e => by simp [ulast] at e) (fun k hk => ?_)
      injection hk with hk; subst hk
      refine ⟨hlt, ?_⟩
      rw [hty]
      have hS : (cx E (w.heap.push (.cells (bytesRow ⟨l.toArray⟩ nc) e fr)) own ρ).S w.heap.size := ⟨by simp, fun ho => by have := (hb.heap.bnd _ ho).2; omega, fun hlt => absurd hlt (by have := hb.bsize; omega)⟩
      refine .mk (VS.of_single (.d ?_ rfl) rfl rfl)
      have hlen : (l.map fun b => D.int .u8 (b.toNat : Int)).length = l.length := by simp
      rw [← hlen]
      refine .slice (g := fun i => [Value.int .u8 ((l.getD i 0).toNat : Int)]) (by rw [hlen]; exact hcap) hcapm (fun _ => rfl) (fun _ => hS) (fun i hi => ?_) (fun i dd hdd => ?_)
      · rw [hlen] at hi
        refine ⟨bytesRow ⟨l.toArray⟩ nc, e, fr, (by show (w.heap.push _)[w.heap.size]? = _; simp), ?_, ?_⟩
        · rw [ety]
          simp only [tySize, bytesRow, Array.size_append, Array.size_map, Array.size_replicate, List.length_cons, List.length_nil]
          simp
          omega
        · rw [ety]
          simp only [tySize, Nat.zero_add, Nat.mul_one, List.length_cons, List.length_nil]
          exact hrow i hi
      · rw [ety]
        rw [List.getElem?_map, Option.map_eq_some_iff] at hdd
        obtain ⟨b, hb', rfl⟩ := hdd
        have : l.getD i 0 = b := by simp [List.getD, hb']
        simp only [this]
        refine .int ?_
        have := b.toNat_lt
        simp [Lit.wf, IntKind.min, IntKind.max, IntKind.signed, IntKind.bits]
        omega
    · cases he
  · cases he
theorem modify_other {a : Array Obj} {b b' : Nat} {f : Obj → Obj} (h : b' ≠ b) : (a.modify b f)[b']? = a[b']? := by
  rw [Array.getElem?_modify, if_neg (Ne.symm h)]
theorem go_cvb {d : Nat} {x : Opd} {y : Operand} {t e : TypeId} {v : V} {u : Hp} {n : Nat} (hr : Rel P E tys U s a w) (ho : o.op = .convert t t y) (hd : o.dst = some d) (hlt : d < a.tmps.size)
    (hds : P.underlying t = some (.slice e)) (he8 : P.underlying e = some (.int .u8)) (hc : opdOk E.ft tys (.o (.sl e)) y x = true) (hty : tys d = .o (.sl e))
    (he : eff (.cvb d x) s.env s.g s.next = some (v, u, n)) : Goes P E tys U s o a w (s.after (some d) v u n) := by
  simp only [eff] at he
  split at he
  · rename_i h len hv
    split at he
    · rename_i l hgl
      split at he
      · rename_i hll
        obtain ⟨hll, hpos⟩ := hll
        injection he with he; injection he with h1 h2; injection h2 with h2 h3; subst h1 h2 h3
        obtain ⟨ρ, own, hb⟩ := hr
        have hx := opd_VT (P := P) (C := cx E w.heap own ρ) hc hb.env
        rw [hv] at hx
        obtain ⟨e', e1, L, k1, k2, k3, k4⟩ := (hx.vs rfl).sl
        injection e1 with e1; subst e1
        have k1 : ρ h = some L := k1
        have ety : tyOf P e = .i .u8 := by unfold tyOf; rw [he8]
        have esz : tySize P (tyOf P e) = 1 := by rw [ety]; rfl
        rcases k4 with ⟨k, _⟩ | ⟨_, ad, cap, q1, q2, q3, q4⟩
        · cases k
        rcases q4 with q4 | ⟨b, q5, q6, q7⟩
        · omega
        obtain ⟨L', r1, r2, r3⟩ := hb.heap.blk h _ hgl
        have r1 : ρ h = some L' := r1
        rw [k1] at r1; injection r1 with r1; subst r1
        rcases r3 with ⟨r3, _⟩ | ⟨b', c, te, r4, r5, r6, r7, r8, r9⟩
        · subst r3; simp at hll; omega
        rw [q5] at r4; injection r4 with r4; subst r4
        have r5 : w.heap[b]? = some (.cells c te (0, 0)) := r5
        have r8 : own b := r8
        rw [k3, esz] at r7 r9
        rw [esz] at q6 q7
        simp only [Nat.zero_mul, Nat.add_zero, Nat.zero_add, Nat.mul_one] at q6 q7 r7 r9
        have hbs : b < w.heap.size := (hb.heap.bnd b r8).2
        generalize hw' : w.freeze ⟨b, c.size, none⟩ 1 = w'
        have hsz : w'.heap.size = w.heap.size := by
          subst hw'; unfold World.freeze; rw [if_neg (by decide)]; simp
        have hoth : ∀ b', b' ≠ b → w'.heap[b']? = w.heap[b']? := fun b' hne => by
          subst hw'; unfold World.freeze; rw [if_neg (by decide)]
          exact modify_other hne
        have hme : w'.heap[b]? = some (.cells c te (c.size, c.size + 1)) := by
          subst hw'; unfold World.freeze; rw [if_neg (by decide)]
          simp only [Array.getElem?_modify, if_true, r5, Option.map_some]
          rfl
        have hos : w'.os = w.os ∧ w'.tape = w.tape ∧ w'.output = w.output := by
          subst hw'; unfold World.freeze; rw [if_neg (by decide)]; exact ⟨rfl, rfl, rfl⟩
        have hrun : (convert t t (a.eval y)).run P w = .ok (a.eval y) w' := by
          rw [q1, q6, ← hw']
          have hsh : w.shape? b = some (te, c.size) := by
            unfold World.shape?; rw [r5]
          simp [convert, run_underlying hds, run_underlying he8, markStringish, hsh]
        have hex : (execOp a.eval o).run P w = .ok (.value (a.eval y)) w' := exec_run (f := convert t t (a.eval y)) (by simp [execOp, ho]) hrun
        have ev : Evo w.heap w'.heap own (fun b' => own b' ∧ b' ≠ b) ρ ρ (fun b' => b' = b) :=
          ⟨by omega, fun b' _ hne => hoth b' hne, fun b' e => by subst e; exact r8, fun b' h => .inl h.1, fun b' h1 h2 => ⟨h1, h2⟩, fun _ _ h => h⟩
        have e0 : U = addU U s.next s.next := addU_self.symm
        refine .inl ⟨_, _, hex, ?_⟩
        rw [hd]
        refine ⟨ρ, fun b' => own b' ∧ b' ≠ b, ?_⟩
        show RelB P E tys (addU U s.next s.next) _ _ _ ρ _
        refine hb.step (w' := w') ev (Nat.le_refl _) hos (u := [(h, .dead)]) (fun b0 e0 => ⟨h, _, L, hgl, rfl, k1, by rw [e0]; exact q5, by simp [ulast]⟩) (fun h L e => .inl e) (fun h' y e => ?_) (fun h1 h2 y y' L1 L2 b0 c1 o1 r1 b1 r2 b2 o2 hh => ?_) (d := some d) (v := .d (.sl false l)) (x := a.eval y) (fun k hk => ?_)
        · simp only [ulast] at e
          split at e
          · injection e with e; subst e; trivial
          · cases e
        · simp only [ulast] at c1
          split at c1
          · injection c1 with c1; subst c1; cases o1
          · cases c1
        · injection hk with hk; subst hk
          refine ⟨hlt, ?_⟩
          rw [hty]
          have hS : (cx E w'.heap (fun b' => own b' ∧ b' ≠ b) ρ).S b := ⟨by show b < w'.heap.size; omega, fun h => h.2 rfl, fun hlt => absurd hlt (by have := (hb.heap.bnd b r8).1; omega)⟩
          rw [q1, q6]
          refine .mk (VS.of_single (.d ?_ rfl) rfl rfl)
          rw [← hll]
          refine .slice (g := fun i => seg c.toList (L.off + i) 1) (by omega) q3 (fun _ => rfl) (fun _ => hS) (fun i hi => ?_) (fun i dd hdd => ?_)
          · have hl1 : (seg c.toList (L.off + i) 1).length = 1 := by unfold seg; simp; omega
            refine ⟨c, te, (c.size, c.size + 1), hme, ?_, ?_⟩
            · rw [esz, hl1]; simp; omega
            · rw [esz, hl1]; simp
          · have hr := r9 i dd hdd
            rw [ety] at hr ⊢
            generalize seg c.toList (L.off + i) 1 = cs at hr ⊢
            cases hr with
            | int h => exact .int h
      · cases he
    · cases he
  · cases he
end
end Go.Fw
namespace Go.Fw
open Go Go.RowKit
variable {P : Program}

def kindOf (tys : Nat → TTy) : Operand → Option IntKind
  | .tmp t => (match tys t with | .o (.i k) => some k | _ => none)
  | .const (.int k _) => some k
  | _ => none
def isShift (op : BinOp) : Bool := decide (op = .shl) || decide (op = .shr)
def isCmp (op : BinOp) : Bool := decide (op = .eql) || decide (op = .neq) || decide (op = .lss) || decide (op = .leq) || decide (op = .gtr) || decide (op = .geq)
variable (P) in
def binOk (ft : Nat → List Ty × List Ty × List (Nat × TypeId)) (tys : Nat → TTy) (d : Nat) (op : BinOp) (xt : TypeId) (y1 y2 : Operand) (x1 x2 : Opd) : Bool :=
  match kindOf tys y1, kindOf tys y2 with
  | some k, some k' => opdOk ft tys (.o (.i k)) y1 x1 && opdOk ft tys (.o (.i k')) y2 x2 && (if isShift op then decide (tys d = .o (.i k)) else if isCmp op then decide (tys d = .o .b) else decide (tys d = .o (.i k)))
  | _, _ => if op = .add then (match P.underlying xt with | some .string => opdOk ft tys (.o .s) y1 x1 && opdOk ft tys (.o .s) y2 x2 && decide (tys d = .o .s) | _ => false) else (decide (op = .eql) || decide (op = .neq)) && decide (tys d = .o .b) && (match P.underlying xt with
    | some .bool => opdOk ft tys (.o .b) y1 x1 && opdOk ft tys (.o .b) y2 x2
    | some .string => opdOk ft tys (.o .s) y1 x1 && opdOk ft tys (.o .s) y2 x2
    | some (.slice e) => (match y2, x2 with | .const (.slice none 0 0), .c (.d (.sl true [])) => opdOk ft tys (.o (.sl e)) y1 x1 | _, _ => false)
    | _ => decide (tyOf P xt = .ag xt) && P.keyTypeAt 20 xt && eqTy P 20 xt && !P.eqGuardType P.depth xt && opdOk ft tys (.o (.ag xt)) y1 x1 && opdOk ft tys (.o (.ag xt)) y2 x2)
variable (P) in
def bldOk (ft : Nat → List Ty × List Ty × List (Nat × TypeId)) (tys : Nat → TTy) (t : TypeId) (parts : Array (Nat × Operand)) (xs : List Opd) : Bool :=
  nodup (parts.toList.map (·.1)) && (match P.underlying t, zc P t with
  | some (.struct fs), some zcs => structOk P t fs && fs.all (fun f => tyGood P f.type) && decide (zcs.length = P.cellsOf t) && parts.toList.all (fun p => decide (p.1 < fs.size)) && decide (xs.length = fs.size) &&
      ((fs.toList.zip xs).zipIdx 0).all fun q => itemOk P ft tys parts.toList zcs q.2 q.1.1.type q.1.1.offset q.1.2
  | some (.array m e), some zcs => tyGood P e && decide (zcs.length = P.cellsOf t) && decide (P.cellsOf t = m * tySize P (tyOf P e)) && parts.toList.all (fun p => decide (p.1 < m)) && decide (xs.length = m) &&
      (xs.zipIdx 0).all fun q => itemOk P ft tys parts.toList zcs q.2 e (q.2 * tySize P (tyOf P e)) q.1
  | _, _ => false)
variable (P) in
def bslOk (ft : Nat → List Ty × List Ty × List (Nat × TypeId)) (tys : Nat → TTy) (e : TypeId) (len : Nat) (parts : Array (Nat × Operand)) (xs : List Opd) : Bool :=
  tyGood P e && decide (0 < tySize P (tyOf P e)) && decide (len * tySize P (tyOf P e) ≤ 16777216) && nodup (parts.toList.map (·.1)) && parts.toList.all (fun p => decide (p.1 < len)) && decide (xs.length = len) && (match zc P e with
  | some zcs => decide (zcs.length = tySize P (tyOf P e)) && (xs.zipIdx 0).all fun q => (match partOpd parts.toList q.2 with | some y => sized P ft tys e y q.1 | none => (match q.1 with | .c z => zOk P e z zcs | _ => false))
  | none => false)
variable (P) in
def mksOk (e : TypeId) (zd : D) : Bool := tyGood P e && bytesOk P e && (match zc P e with | some zcs => decide (zcs.length = tySize P (tyOf P e)) && dOk P 20 e zd zcs | none => false)
variable (P) in
def rowOk (e : TypeId) : Bool := tyGood P e && bytesOk P e && (match zc P e with | some zcs => decide (zcs.length = tySize P (tyOf P e)) | none => false)
variable (P) in
def callOk (ft : Nat → List Ty × List Ty × List (Nat × TypeId)) (tys : Nat → TTy) (c : Call) (i : KI) : Bool :=
  match c.callee, c.args.toList, c.argTypes.toList, i with
  | .builtin .len, [y], [t], .len d x => (match P.underlying t with | some (.slice e) => opdOk ft tys (.o (.sl e)) y x && decide (tys d = .o (.i .i64)) | _ => false)
  | .builtin .len, [_], [t], .mv d (.c (.int .i64 n)) => (match P.underlying t with | some (.array m _) => decide (n = m) && decide (tys d = .o (.i .i64)) && (Lit.int .i64 n).wf | _ => false)
  | .builtin .append, [y, y2], [t, t2], .app d x x2 => (match P.underlying t, P.underlying t2 with
    | some (.slice e), some (.slice e2) => decide (e = e2) && rowOk P e && opdOk ft tys (.o (.sl e)) y x && opdOk ft tys (.o (.sl e)) y2 x2 && decide (tys d = .o (.sl e))
    | _, _ => false)
  | .builtin .append, [y, y2], [t, t2], .apz d x zd x2 => (match P.underlying t, P.underlying t2 with
    | some (.slice e), some (.int _) => mksOk P e zd && decide (0 < tySize P (tyOf P e)) && opdOk ft tys (.o (.sl e)) y x && intOk ft tys y2 x2 && decide (tys d = .o (.sl e))
    | _, _ => false)
  | .builtin .cap, [y], [t], .cap d x => (match P.underlying t with | some (.slice e) => opdOk ft tys (.o (.sl e)) y x && decide (tys d = .o (.i .i64)) | _ => false)
  | .builtin .max, ys, _, .mx d xs => (match tys d with | .o (.i k) => opdsOk ft tys (.o (.i k)) ys xs | _ => false)
  | .builtin .min, ys, _, .mn d xs => (match tys d with | .o (.i k) => opdsOk ft tys (.o (.i k)) ys xs | _ => false)
  | .builtin .clear, [y], [t], .clr zd x => (match P.underlying t with | some (.slice e) => mksOk P e zd && opdOk ft tys (.o (.sl e)) y x | _ => false)
  | _, _, _, _ => false
variable (P) in
def opOk (ft : Nat → List Ty × List Ty × List (Nat × TypeId)) (tys : Nat → TTy) (op : Op) (i : KI) : Bool :=
  match op, i with
  | .move y, .mv d x => opdOk ft tys (tys d) y x
  | .assign y, .mv d x => opdOk ft tys (tys d) y x
  | .pick y0 y1 y2, .pick d x0 x1 x2 => opdOk ft tys (.o .b) y0 x0 && opdOk ft tys (tys d) y1 x1 && opdOk ft tys (tys d) y2 x2
  | .alloc t, .alc d z => zGood P t z && decide (tys d = .o (.pt t))
  | .box t y, .box d x => opdOk ft tys (.o (tyOf P t)) y x && decide (tys d = .o (.pt t))
  | .build t parts, .bld d xs => bldOk P ft tys t parts xs && decide (tys d = .o (.ag t))
  | .buildSlice t len parts, .bsl d xs => (match P.underlying t with | some (.slice e) => bslOk P ft tys e len parts xs && decide (tys d = .o (.sl e)) | _ => false)
  | .load t y, .ld d x => tyGood P t && opdOk ft tys (.o (.pt t)) y x && decide (tys d = .o (tyOf P t))
  | .store t y z, .st x x2 => tyGood P t && opdOk ft tys (.o (.pt t)) y x && opdOk ft tys (.o (tyOf P t)) z x2
  | .nilCheck y, .nck d x => opdOk ft tys (tys d) y x
  | .binOp op xt y1 y2 _, .bin d op' x1 x2 => decide (op = op') && binOk P ft tys d op xt y1 y2 x1 x2
  | .unOp op _ y, .un d op' x => decide (op = op') && (match tys d with | .o ty => opdOk ft tys (.o ty) y x | _ => false)
  | .convert src dst y, .cv d k x => intOk ft tys y x && decide (tys d = .o (.i k)) && (P.underlying src).isSome && (match P.underlying dst with | some (.int k') => decide (k' = k) | _ => false)
  | .convert src dst y, .tos d x => decide (tys d = .o .s) && (match P.underlying src with | some (.slice e) => (match P.underlying e, P.underlying dst with | some (.int .u8), some .string => opdOk ft tys (.o (.sl e)) y x | _, _ => false) | _ => false)
  | .convert src dst y, .tob d x => (match P.underlying src, P.underlying dst with | some .string, some (.slice e) => (match P.underlying e with | some (.int .u8) => opdOk ft tys (.o .s) y x && decide (tys d = .o (.sl e)) | _ => false) | _, _ => false)
  | .convert src dst y, .cvb d x => decide (src = dst) && (match P.underlying dst with | some (.slice e) => (match P.underlying e with | some (.int .u8) => opdOk ft tys (.o (.sl e)) y x && decide (tys d = .o (.sl e)) | _ => false) | _ => false)
  | .makeSlice t yl yc, .mks d zd xl xc => (match P.underlying t with | some (.slice e) => mksOk P e zd && intOk ft tys yl xl && intOk ft tys yc xc && decide (tys d = .o (.sl e)) | _ => false)
  | .slice t y lo' hi' none, .slc d x lo hi => (match P.underlying t with | some (.slice e) => tyGood P e && opdOk ft tys (.o (.sl e)) y x && optOk ft tys lo' lo && optOk ft tys hi' hi && decide (tys d = .o (.sl e)) | _ => false)
  | .fieldAddr t y n, .fa d x n' => decide (n = n') && (match P.underlying t with
    | some (.struct fs) => (match fs[n]? with | some f => tyGood P f.type && decide (0 < tySize P (tyOf P f.type)) && opdOk ft tys (.o (.pt t)) y x && decide (tys d = .o (.pt f.type)) | none => false)
    | _ => false)
  | .field t y n, .fd d x n' => decide (n = n') && (match P.underlying t with
    | some (.struct fs) => (match fs[n]? with | some f => tyGood P f.type && opdOk ft tys (.o (.ag t)) y x && decide (tys d = .o (tyOf P f.type)) | none => false)
    | _ => false)
  | .indexAddr t y iy, .ia d x ix => intOk ft tys iy ix && (match P.underlying t with
    | some (.slice e) => tyGood P e && opdOk ft tys (.o (.sl e)) y x && decide (tys d = .o (.pt e))
    | some (.array _ e) => tyGood P e && opdOk ft tys (.o (.pt t)) y x && decide (tys d = .o (.pt e))
    | _ => false)
  | .index t y iy, .ix d x ix => intOk ft tys iy ix && (match P.underlying t with
    | some (.array _ e) => tyGood P e && opdOk ft tys (.o (.ag t)) y x && decide (tys d = .o (tyOf P e))
    | _ => false)
  | .extract (.tmp t) n, .ex d x n' => decide (n = n') && (match tys t with | .t l => opdOk ft tys (.t l) (.tmp t) x && (match l[n]? with | some ty => decide (tys d = .o ty) | none => false) | _ => false)
  | .call c, i => callOk P ft tys c i
  | .makeMap t none, .mkm d => (match P.underlying t with | some (.map _ _) => decide (tys d = .o (.mp t)) | _ => false)
  | .lookup t ym yk ok, .lk d xm xk z ok' => decide (ok = ok') && (match P.underlying t with
    | some (.map kt et) => keyOk P kt && opdOk ft tys (.o (.mp t)) ym xm && opdOk ft tys (.o (tyOf P kt)) yk xk && zvOk P et z && decide (tys d = if ok then .t [tyOf P et, .b] else .o (tyOf P et))
    | _ => false)
  | .mapUpdate t ym yk yv, .mu xm xk xv => (match P.underlying t with
    | some (.map kt et) => keyOk P kt && opdOk ft tys (.o (.mp t)) ym xm && opdOk ft tys (.o (tyOf P kt)) yk xk && opdOk ft tys (.o (tyOf P et)) yv xv
    | _ => false)
  | .insert t ym yk yv, .mu xm xk xv => (match P.underlying t with
    | some (.map kt et) => keyOk P kt && opdOk ft tys (.o (.mp t)) ym xm && opdOk ft tys (.o (tyOf P kt)) yk xk && opdOk ft tys (.o (tyOf P et)) yv xv
    | _ => false)
  | .makeFunc (.func f) fs cs, .mkf d f' xs ys => decide (f = f') && mkfOk ft tys (tys d) f fs.toList cs.toList xs ys
  | _, .bad _ => true
  | _, _ => false

section
variable {E : Fr} {tys : Nat → TTy} {U : Nat → Prop} {s : St} {a : Act} {w : World} {o : Oper}
theorem go_binOk {d : Nat} {op : BinOp} {x1 x2 : Opd} {y1 y2 : Operand} {xt yt : TypeId} {v : V} {u : Hp} {n : Nat} (hr : Rel P E tys U s a w) (ho : o.op = .binOp op xt y1 y2 yt) (hd : o.dst = some d) (hlt : d < a.tmps.size)
    (h : binOk P E.ft tys d op xt y1 y2 x1 x2 = true) (he : eff (.bin d op x1 x2) s.env s.g s.next = some (v, u, n)) : Goes P E tys U s o a w (s.after (some d) v u n) := by
  unfold binOk at h
  split at h
  · rename_i k k' _ _
    simp only [Bool.and_eq_true] at h
    refine go_bin_int hr ho hd hlt h.1.1 h.1.2 ⟨fun hs => ?_, fun hs => ⟨fun hc => ?_, fun hc => ?_⟩⟩ he
    · have hs' : isShift op = true := by simp [isShift, hs]
      have := h.2
      rw [if_pos hs'] at this
      exact of_decide_eq_true this
    · have hs' : ¬ isShift op = true := by simp only [isShift, Bool.or_eq_true, decide_eq_true_eq]; exact hs
      have hc' : isCmp op = true := by rcases hc with rfl | rfl | rfl | rfl | rfl | rfl <;> rfl
      have := h.2
      rw [if_neg hs', if_pos hc'] at this
      exact of_decide_eq_true this
    · have hs' : ¬ isShift op = true := by simp only [isShift, Bool.or_eq_true, decide_eq_true_eq]; exact hs
      have hc' : ¬ isCmp op = true := by
        simp only [isCmp, Bool.or_eq_true, decide_eq_true_eq]
        intro hh
        apply hc
        rcases hh with ((((hh | hh) | hh) | hh) | hh) | hh
        · exact .inl hh
        · exact .inr (.inl hh)
        · exact .inr (.inr (.inl hh))
        · exact .inr (.inr (.inr (.inl hh)))
        · exact .inr (.inr (.inr (.inr (.inl hh))))
        · exact .inr (.inr (.inr (.inr (.inr hh))))
      have := h.2
      rw [if_neg hs', if_neg hc'] at this
      exact of_decide_eq_true this
  · split at h
    · rename_i hadd
      subst hadd
      split at h
      · simp only [Bool.and_eq_true, decide_eq_true_eq] at h
        exact go_bin_cat hr ho hd hlt h.1.1 h.1.2 h.2 he
      · cases h
    simp only [Bool.and_eq_true, Bool.or_eq_true, decide_eq_true_eq] at h
    obtain ⟨⟨hop, hty⟩, h⟩ := h
    split at h
    · rename_i hu
      simp only [Bool.and_eq_true] at h
      exact go_bin_bool hr ho hd hlt hop hu h.1 h.2 hty he
    · rename_i hu
      simp only [Bool.and_eq_true] at h
      exact go_bin_str hr ho hd hlt hop hu h.1 h.2 hty he
    · rename_i e hu
      split at h
      · exact go_bin_nil hr ho hd hlt hop hu h hty he
      · cases h
    · simp only [Bool.and_eq_true, decide_eq_true_eq, Bool.not_eq_true'] at h
      obtain ⟨⟨⟨⟨⟨h1, h2⟩, h3⟩, h4⟩, h5⟩, h6⟩ := h
      exact go_bin_ag hr ho hd hlt hop h1 h2 h3 h4 h5 h6 hty he

theorem go_bldOk {d : Nat} {xs : List Opd} {t : TypeId} {parts : Array (Nat × Operand)} {v : V} {u : Hp} {n : Nat} (hr : Rel P E tys U s a w) (ho : o.op = .build t parts) (hd : o.dst = some d) (hlt : d < a.tmps.size)
    (h : bldOk P E.ft tys t parts xs = true) (hty : tys d = .o (.ag t)) (he : eff (.bld d xs) s.env s.g s.next = some (v, u, n)) : Goes P E tys U s o a w (s.after (some d) v u n) := by
  simp only [bldOk, Bool.and_eq_true] at h
  obtain ⟨hn, h⟩ := h
  split at h
  · rename_i fs zcs hu hz
    simp only [Bool.and_eq_true, decide_eq_true_eq] at h
    obtain ⟨⟨⟨⟨⟨h1, h2⟩, h3⟩, h4⟩, h5⟩, h6⟩ := h
    refine go_bld_struct hr ho hd hlt hu h1 (Array.all_eq_true_iff_forall_mem.1 h2) hz h3 hn (fun p hp => of_decide_eq_true (List.all_eq_true.1 h4 p hp)) h5 (fun i f x hf hx => ?_) hty he
    have hzi : ((fs.toList.zip xs).zipIdx 0)[i]? = some ((f, x), i) := by
      rw [List.getElem?_zipIdx]
      have : (fs.toList.zip xs)[i]? = some (f, x) := by
        rw [List.getElem?_zip_eq_some]
        exact ⟨by simpa using hf, hx⟩
      rw [this]; simp
    exact List.all_eq_true.1 h6 _ (List.mem_of_getElem? hzi)
  · rename_i m e zcs hu hz
    simp only [Bool.and_eq_true, decide_eq_true_eq] at h
    obtain ⟨⟨⟨⟨⟨h1, h2⟩, h3⟩, h4⟩, h5⟩, h6⟩ := h
    refine go_bld_array hr ho hd hlt hu h1 hz h2 h3 hn (fun p hp => of_decide_eq_true (List.all_eq_true.1 h4 p hp)) h5 (fun i x hx => ?_) hty he
    have hzi : (xs.zipIdx 0)[i]? = some (x, i) := by
      rw [List.getElem?_zipIdx, hx]; simp
    exact List.all_eq_true.1 h6 _ (List.mem_of_getElem? hzi)
  · cases h

theorem go_bslOk {d : Nat} {xs : List Opd} {t e : TypeId} {len : Nat} {parts : Array (Nat × Operand)} {v : V} {u : Hp} {n : Nat} (hr : Rel P E tys U s a w) (hU : ∀ h, s.next ≤ h → h < n → ¬ U h) (ho : o.op = .buildSlice t len parts) (hd : o.dst = some d) (hlt : d < a.tmps.size)
    (hu : P.underlying t = some (.slice e)) (h : bslOk P E.ft tys e len parts xs = true) (hty : tys d = .o (.sl e)) (he : eff (.bsl d xs) s.env s.g s.next = some (v, u, n)) : Goes P E tys U s o a w (s.after (some d) v u n) := by
  simp only [bslOk, Bool.and_eq_true, decide_eq_true_eq] at h
  obtain ⟨⟨⟨⟨⟨⟨h1, h2⟩, h3⟩, h4⟩, h5⟩, h6⟩, h⟩ := h
  split at h
  · rename_i zcs hz
    simp only [Bool.and_eq_true, decide_eq_true_eq] at h
    refine go_bsl hr hU ho hd hlt hu h1 h2 hz h.1 h3 h4 (fun p hp => of_decide_eq_true (List.all_eq_true.1 h5 p hp)) h6 (fun i x hx => ?_) hty he
    have hzi : (xs.zipIdx 0)[i]? = some (x, i) := by
      rw [List.getElem?_zipIdx, hx]; simp
    have hh := List.all_eq_true.1 h.2 _ (List.mem_of_getElem? hzi)
    simp only at hh
    split
    · rename_i y hy
      rw [hy] at hh
      exact hh
    · rename_i hy
      rw [hy] at hh
      simp only at hh
      split at hh
      · rename_i z
        exact ⟨z, rfl, hh⟩
      · cases hh
  · cases h
theorem go_lenArr {d m : Nat} {y : Operand} {t e : TypeId} {v : V} {u : Hp} {n : Nat} (hr : Rel P E tys U s a w) (ho : o.op = .call { callee := .builtin .len, args := #[y], argTypes := #[t] }) (hd : o.dst = some d) (hlt : d < a.tmps.size)
    (hu : P.underlying t = some (.array m e)) (hty : tys d = .o (.i .i64)) (hw : (Lit.int .i64 m).wf = true) (he : eff (.mv d (.c (.int .i64 m))) s.env s.g s.next = some (v, u, n)) : Goes P E tys U s o a w (s.after (some d) v u n) := by
  simp only [eff] at he; injection he with he; injection he with h1 h2; injection h2 with h2 h3; subst h1 h2 h3
  refine Goes.pure hr (x := .int .i64 (m : Int)) ?_ hd hlt (fun ρ own hb => by rw [hty]; exact .mk (VS.mk_int hw))
  simp [execOp, ho, resolve, invoke, builtin, Builtin.len_, run_underlying hu, goInt]
end
end Go.Fw
namespace Go.Fw
open Go Go.RowKit
variable {P : Program}
section
variable {E : Fr} {tys : Nat → TTy} {U : Nat → Prop} {s : St} {a : Act} {w : World} {o : Oper}

theorem call_eq {c : Call} {b : Callee} {ys : List Operand} {ts : List TypeId} (h1 : c.callee = b) (h2 : c.args.toList = ys) (h3 : c.argTypes.toList = ts) : c = { callee := b, args := ys.toArray, argTypes := ts.toArray } := by
  cases c
  simp only at h1 h2 h3
  subst h1 h2 h3
  simp

theorem go_callOk {i : KI} {c : Call} {v : V} {u : Hp} {n : Nat} (hr : Rel P E tys U s a w) (hU : ∀ h, s.next ≤ h → h < n → ¬ U h) (ho : o.op = .call c) (hd : o.dst = i.dst) (hlt : ∀ d, i.dst = some d → d < a.tmps.size)
    (h : callOk P E.ft tys c i = true) (he : eff i s.env s.g s.next = some (v, u, n)) : Goes P E tys U s o a w (s.after i.dst v u n) := by
  unfold callOk at h
  split at h
  · rename_i y t d x h1 h2 h3
    have hc := call_eq h1 h2 h3
    subst hc
    split at h
    · rename_i e hu
      simp only [Bool.and_eq_true, decide_eq_true_eq] at h
      exact go_len hr ho hd (hlt d rfl) hu h.1 h.2 he
    · cases h
  · rename_i y t d n' h1 h2 h3
    have hc := call_eq h1 h2 h3
    subst hc
    split at h
    · rename_i m e hu
      simp only [Bool.and_eq_true, decide_eq_true_eq] at h
      obtain ⟨⟨rfl, h4⟩, h5⟩ := h
      exact go_lenArr hr ho hd (hlt d rfl) hu h4 h5 he
    · cases h
  · rename_i y y2 t t2 d x x2 h1 h2 h3
    have hc := call_eq h1 h2 h3
    subst hc
    split at h
    · rename_i e e2 hu hu2
      simp only [Bool.and_eq_true, decide_eq_true_eq, rowOk] at h
      obtain ⟨⟨⟨⟨rfl, ⟨⟨h4, h5⟩, h6⟩⟩, h7⟩, h8⟩, h9⟩ := h
      split at h6
      · rename_i zcs hz
        exact go_app hr hU ho hd (hlt d rfl) hu hu2 h4 hz (of_decide_eq_true h6) h5 h7 h8 h9 he
      · cases h6
    · cases h
  · rename_i y y2 t t2 d x zd x2 h1 h2 h3
    have hc := call_eq h1 h2 h3
    subst hc
    split at h
    · rename_i e k0 hu hu2
      simp only [Bool.and_eq_true, decide_eq_true_eq, mksOk] at h
      obtain ⟨⟨⟨⟨⟨⟨h4, h5⟩, h6⟩, h7⟩, h8⟩, h9⟩, h10⟩ := h
      split at h6
      · rename_i zcs hz
        simp only [Bool.and_eq_true, decide_eq_true_eq] at h6
        exact go_apz hr hU ho hd (hlt d rfl) hu hu2 h4 hz h6.1 h6.2 h5 h7 h8 h9 h10 he
      · cases h6
    · cases h
  · rename_i y t d x h1 h2 h3
    have hc := call_eq h1 h2 h3
    subst hc
    split at h
    · rename_i e hu
      simp only [Bool.and_eq_true, decide_eq_true_eq] at h
      exact go_cap hr ho hd (hlt d rfl) hu h.1 h.2 he
    · cases h
  · rename_i ys d xs h1
    split at h
    · rename_i k hk
      simp only [eff] at he
      split at he
      · rename_i v' hv
        injection he with he; injection he with e1 e2; injection e2 with e2 e3; subst e1 e2 e3
        exact go_most (gt := true) hr ho h1 hd (hlt d rfl) h hk hv
      · cases he
    · cases h
  · rename_i ys d xs h1
    split at h
    · rename_i k hk
      simp only [eff] at he
      split at he
      · rename_i v' hv
        injection he with he; injection he with e1 e2; injection e2 with e2 e3; subst e1 e2 e3
        exact go_most (gt := false) hr ho h1 hd (hlt d rfl) h hk hv
      · cases he
    · cases h
  · rename_i y t zd x h1 h2 h3
    have hc := call_eq h1 h2 h3
    subst hc
    split at h
    · rename_i e hu
      simp only [Bool.and_eq_true, mksOk] at h
      obtain ⟨⟨⟨h4, _⟩, h5⟩, h6⟩ := h
      split at h5
      · rename_i zcs hz
        simp only [Bool.and_eq_true, decide_eq_true_eq] at h5
        exact go_clr hr ho hd hu h4 hz h5.1 h5.2 h6 he
      · cases h5
    · cases h
  · cases h

theorem go_op {i : KI} {v : V} {u : Hp} {n : Nat} (hr : Rel P E tys U s a w) (hU : ∀ h, s.next ≤ h → h < n → ¬ U h) (hd : o.dst = i.dst) (hlt : ∀ d, i.dst = some d → d < a.tmps.size)
    (h : opOk P E.ft tys o.op i = true) (he : eff i s.env s.g s.next = some (v, u, n)) : Goes P E tys U s o a w (s.after i.dst v u n) := by
  generalize hop : o.op = op at h
  unfold opOk at h
  split at h
  · rename_i y d x
    exact go_mv hr (.inl hop) hd (hlt d rfl) h he
  · rename_i y d x
    exact go_mv hr (.inr hop) hd (hlt d rfl) h he
  · rename_i y0 y1 y2 d x0 x1 x2
    simp only [Bool.and_eq_true] at h
    exact go_pick hr hop hd (hlt d rfl) h.1.1 h.1.2 h.2 he
  · rename_i t d z
    simp only [Bool.and_eq_true, decide_eq_true_eq] at h
    exact go_alc hr hU hop hd (hlt d rfl) h.1 h.2 he
  · rename_i t y d x
    simp only [Bool.and_eq_true, decide_eq_true_eq] at h
    exact go_box hr hU hop hd (hlt d rfl) h.1 h.2 he
  · rename_i t parts d xs
    simp only [Bool.and_eq_true, decide_eq_true_eq] at h
    exact go_bldOk hr hop hd (hlt d rfl) h.1 h.2 he
  · rename_i t len parts d xs
    split at h
    · rename_i e hu
      simp only [Bool.and_eq_true, decide_eq_true_eq] at h
      exact go_bslOk hr hU hop hd (hlt d rfl) hu h.1 h.2 he
    · cases h
  · rename_i t y d x
    simp only [Bool.and_eq_true, decide_eq_true_eq] at h
    exact go_ld hr hop hd (hlt d rfl) h.1.1 h.1.2 h.2 he
  · rename_i t y z x x2
    simp only [Bool.and_eq_true] at h
    exact go_st hr hop hd h.1.1 h.1.2 h.2 he
  · rename_i y d x
    exact go_nck hr hop hd (hlt d rfl) h he
  · rename_i op' xt y1 y2 yt d op2 x1 x2
    simp only [Bool.and_eq_true, decide_eq_true_eq] at h
    obtain ⟨rfl, h⟩ := h
    exact go_binOk hr hop hd (hlt d rfl) h he
  · rename_i op' xt y d op2 x
    simp only [Bool.and_eq_true, decide_eq_true_eq] at h
    obtain ⟨rfl, h⟩ := h
    split at h
    · rename_i ty hty
      exact go_un hr hop hd (hlt d rfl) h hty he
    · cases h
  · rename_i src dst y d k x
    simp only [Bool.and_eq_true, decide_eq_true_eq] at h
    obtain ⟨⟨⟨h1, h2⟩, h3⟩, h4⟩ := h
    obtain ⟨k0, hk0⟩ := intOk.out h1
    split at h4
    · rename_i k' hk
      have := of_decide_eq_true h4
      subst this
      exact go_cv hr hop hd (hlt d rfl) hk0 h2 h3 hk he
    · cases h4
  · rename_i src dst y d x
    simp only [Bool.and_eq_true, decide_eq_true_eq] at h
    obtain ⟨h1, h2⟩ := h
    split at h2
    · rename_i e hs
      split at h2
      · rename_i he8 hds
        exact go_tos hr hop hd (hlt d rfl) hs he8 hds h2 h1 he
      · cases h2
    · cases h2
  · rename_i src dst y d x
    split at h
    · rename_i e hs hds
      split at h
      · rename_i he8
        simp only [Bool.and_eq_true, decide_eq_true_eq] at h
        exact go_tob hr hop hd (hlt d rfl) hs hds he8 h.1 h.2 he
      · cases h
    · cases h
  · rename_i src dst y d x
    simp only [Bool.and_eq_true, decide_eq_true_eq] at h
    obtain ⟨h0, h⟩ := h
    subst h0
    split at h
    · rename_i e hds
      split at h
      · rename_i he8
        simp only [Bool.and_eq_true, decide_eq_true_eq] at h
        exact go_cvb hr hop hd (hlt d rfl) hds he8 h.1 h.2 he
      · cases h
    · cases h
  · rename_i t yl yc d zd xl xc
    split at h
    · rename_i e hu
      simp only [Bool.and_eq_true, decide_eq_true_eq, mksOk] at h
      obtain ⟨⟨⟨⟨⟨h1, h2⟩, h3⟩, h4⟩, h5⟩, h6⟩ := h
      split at h3
      · rename_i zcs hz
        simp only [Bool.and_eq_true, decide_eq_true_eq] at h3
        exact go_mks hr hU hop hd (hlt d rfl) hu h1 hz h3.1 h3.2 h2 h4 h5 h6 he
      · cases h3
    · cases h
  · rename_i t y lo' hi' d x lo hi
    split at h
    · rename_i e hu
      simp only [Bool.and_eq_true, decide_eq_true_eq] at h
      obtain ⟨⟨⟨⟨h1, h2⟩, h3⟩, h4⟩, h5⟩ := h
      exact go_slc hr hop hd (hlt d rfl) hu h1 h2 h3 h4 h5 he
    · cases h
  · rename_i t y m d x m'
    simp only [Bool.and_eq_true, decide_eq_true_eq] at h
    obtain ⟨rfl, h⟩ := h
    split at h
    · rename_i fs hu
      split at h
      · rename_i f hf
        simp only [Bool.and_eq_true, decide_eq_true_eq] at h
        obtain ⟨⟨⟨h1, h2⟩, h3⟩, h4⟩ := h
        exact go_fa hr hop hd (hlt d rfl) hu hf h1 h2 h3 h4 he
      · cases h
    · cases h
  · rename_i t y m d x m'
    simp only [Bool.and_eq_true, decide_eq_true_eq] at h
    obtain ⟨rfl, h⟩ := h
    split at h
    · rename_i fs hu
      split at h
      · rename_i f hf
        simp only [Bool.and_eq_true, decide_eq_true_eq] at h
        obtain ⟨⟨h1, h3⟩, h4⟩ := h
        exact go_fd hr hop hd (hlt d rfl) hu hf h1 h3 h4 he
      · cases h
    · cases h
  · rename_i t y iy d x ix
    simp only [Bool.and_eq_true] at h
    obtain ⟨h1, h⟩ := h
    obtain ⟨k0, hk0⟩ := intOk.out h1
    split at h
    · rename_i e hu
      simp only [Bool.and_eq_true, decide_eq_true_eq] at h
      exact go_ia_slice hr hop hd (hlt d rfl) hu h.1.1 h.1.2 hk0 h.2 he
    · rename_i m e hu
      simp only [Bool.and_eq_true, decide_eq_true_eq] at h
      exact go_ia_array hr hop hd (hlt d rfl) hu h.1.1 h.1.2 hk0 h.2 he
    · cases h
  · rename_i t y iy d x ix
    simp only [Bool.and_eq_true] at h
    obtain ⟨h1, h⟩ := h
    obtain ⟨k0, hk0⟩ := intOk.out h1
    split at h
    · rename_i m e hu
      simp only [Bool.and_eq_true, decide_eq_true_eq] at h
      exact go_ix hr hop hd (hlt d rfl) hu h.1.1 h.1.2 hk0 h.2 he
    · cases h
  · rename_i t m d x m'
    simp only [Bool.and_eq_true, decide_eq_true_eq] at h
    obtain ⟨rfl, h⟩ := h
    split at h
    · rename_i l hl
      simp only [Bool.and_eq_true] at h
      obtain ⟨h1, h2⟩ := h
      split at h2
      · rename_i ty hty
        exact go_ex hr hop hd (hlt d rfl) h1 hty (of_decide_eq_true h2) he
      · cases h2
    · cases h
  · rename_i c i
    exact go_callOk hr hU hop hd hlt h he
  · rename_i t d
    split at h
    · rename_i kt et hu
      exact go_mkm hr hU hop hd (hlt d rfl) hu (of_decide_eq_true h) he
    · cases h
  · rename_i t ym yk ok d xm xk z ok'
    simp only [Bool.and_eq_true, decide_eq_true_eq] at h
    obtain ⟨rfl, h⟩ := h
    split at h
    · rename_i kt et hu
      simp only [Bool.and_eq_true, decide_eq_true_eq] at h
      obtain ⟨⟨⟨⟨h1, h2⟩, h3⟩, h4⟩, h5⟩ := h
      obtain ⟨zv, hz1, hz2⟩ := zvOk.out h4
      exact go_lk hr hop hd (hlt d rfl) hu h1 h2 h3 hz1 hz2 h5 he
    · cases h
  · rename_i t ym yk yv xm xk xv
    split at h
    · rename_i kt et hu
      simp only [Bool.and_eq_true] at h
      exact go_mu hr (.inl hop) hd hu h.1.1.1 h.1.1.2 h.1.2 h.2 he
    · cases h
  · rename_i t ym yk yv xm xk xv
    split at h
    · rename_i kt et hu
      simp only [Bool.and_eq_true] at h
      exact go_mu hr (.inr hop) hd hu h.1.1.1 h.1.1.2 h.1.2 h.2 he
    · cases h
  · rename_i f fs cs d f' xs ys
    simp only [Bool.and_eq_true, decide_eq_true_eq] at h
    obtain ⟨rfl, h⟩ := h
    exact go_mkf hr hop hd (hlt d rfl) h he
  · simp [eff] at he
  · cases h
end
end Go.Fw
namespace Go.Fw
open Go

def KI.allocs : KI → Bool
  | .alc _ _ | .box _ _ | .bsl _ _ | .mks _ _ _ _ | .apz _ _ _ _ | .mkm _ | .app _ _ _ | .dat _ _ _ | .daf _ _ _ => true
  | _ => false
def optmp : Opd → List Nat
  | .t n => [n]
  | .c _ => []
def KI.tmps (i : KI) : List Nat := i.ops.flatMap optmp

mutual
theorem freeze_keys {g : Nat → Option Blk} : ∀ (v : V) {d : D} {u : Hp}, freeze g v = some (d, u) → ∀ p ∈ u, p.1 ∈ v.hs
  | .int k n, d, u, h => by simp [freeze] at h; rw [h.2]; simp
  | .bool b, d, u, h => by simp [freeze] at h; rw [h.2]; simp
  | .d x, d, u, h => by simp [freeze] at h; rw [h.2]; simp
  | .agg l, d, u, h => by
    simp only [freeze] at h
    split at h
    · rename_i m u' hm
      injection h with h; injection h with h1 h2; subst h1 h2
      exact freezes_keys l hm
    · cases h
  | .asl n l, d, u, h => by
    cases n with
    | true => simp [freeze] at h; rw [h.2]; simp
    | false => simp [freeze] at h
  | .sl n hh off len, d, u, h => by
    simp only [freeze] at h
    split at h
    · split at h
      · injection h with h; injection h with h1 h2; subst h1 h2
        intro p hp
        simp only [List.mem_singleton] at hp; subst hp
        simp [V.hs]
      · cases h
    · cases h
  | .ptr _ _, d, u, h => by simp [freeze] at h
  | .rp _, d, u, h => by simp [freeze] at h
  | .clo _ _ _, d, u, h => by simp [freeze] at h
  | .map _, d, u, h => by simp [freeze] at h
  | .tup _, d, u, h => by simp [freeze] at h
  | .und, d, u, h => by simp [freeze] at h
theorem freezes_keys {g : Nat → Option Blk} : ∀ (l : List V) {m : List D} {u : Hp}, freezes g l = some (m, u) → ∀ p ∈ u, p.1 ∈ V.hss l
  | [], m, u, h => by simp [freezes] at h; rw [h.2]; simp
  | v :: l, m, u, h => by
    simp only [freezes] at h
    split at h
    · rename_i x u1 y u2 h1 h2
      injection h with h; injection h with e1 e2; subst e1 e2
      intro p hp
      simp only [V.hss, List.mem_append]
      rcases List.mem_append.1 hp with hp | hp
      · exact .inl (freeze_keys v h1 p hp)
      · exact .inr (freezes_keys l h2 p hp)
    · cases h
end
mutual
theorem freeze_congr {g g' : Nat → Option Blk} : ∀ (v : V), (∀ h ∈ v.hs, g h = g' h) → freeze g v = freeze g' v
  | .int _ _, _ => rfl
  | .bool _, _ => rfl
  | .d _, _ => rfl
  | .agg l, h => by simp only [freeze]; rw [freezes_congr l h]
  | .asl n l, _ => by cases n <;> rfl
  | .sl n hh off len, h => by simp only [freeze]; rw [h hh (by simp [V.hs])]
  | .ptr _ _, _ => rfl
  | .rp _, _ => rfl
  | .clo _ _ _, _ => rfl
  | .map _, _ => rfl
  | .tup _, _ => rfl
  | .und, _ => rfl
theorem freezes_congr {g g' : Nat → Option Blk} : ∀ (l : List V), (∀ h ∈ V.hss l, g h = g' h) → freezes g l = freezes g' l
  | [], _ => rfl
  | v :: l, h => by
    simp only [freezes]
    rw [freeze_congr v (fun x hx => h x (by simp [V.hss, hx])), freezes_congr l (fun x hx => h x (by simp [V.hss, hx]))]
end
mutual
theorem toD_congr {g g' : Nat → Option Blk} : ∀ (v : V), (∀ h ∈ v.hs, g h = g' h) → toD g v = toD g' v
  | .int _ _, _ => rfl
  | .bool _, _ => rfl
  | .d _, _ => rfl
  | .agg l, h => by simp only [toD]; rw [toDs_congr l h]
  | .asl n l, _ => rfl
  | .sl n hh off len, h => by simp only [toD]; rw [h hh (by simp [V.hs])]
  | .ptr _ _, _ => rfl
  | .rp _, _ => rfl
  | .clo _ _ _, _ => rfl
  | .map _, _ => rfl
  | .tup _, _ => rfl
  | .und, _ => rfl
theorem toDs_congr {g g' : Nat → Option Blk} : ∀ (l : List V), (∀ h ∈ V.hss l, g h = g' h) → toDs g l = toDs g' l
  | [], _ => rfl
  | v :: l, h => by
    simp only [toDs]
    rw [toD_congr v (fun x hx => h x (by simp [V.hss, hx])), toDs_congr l (fun x hx => h x (by simp [V.hss, hx]))]
end
theorem loadV_congr {g g' : Nat → Option Blk} {v : V} (h : ∀ x ∈ ptrs v, g x = g' x) : loadV g v = loadV g' v := by
  cases v <;> first | rfl | skip
  simp only [loadV]
  rw [h _ (by simp [ptrs])]
theorem elemsOf_congr {g g' : Nat → Option Blk} {v : V} (h : ∀ x ∈ ptrs v, g x = g' x) : elemsOf g v = elemsOf g' v := by
  cases v
  case d x => cases x <;> rfl
  case sl n hh off len =>
    simp only [elemsOf]
    rw [h _ (by simp [ptrs])]
  all_goals rfl
theorem saveV_congr {g g' : Nat → Option Blk} {a x : V} (h : ∀ y ∈ ptrs a, g y = g' y) (hx : ∀ y ∈ x.hs, g y = g' y) : saveV g a x = saveV g' a x := by
  cases a <;> first | rfl | skip
  simp only [saveV]
  rw [h _ (by simp [ptrs]), freeze_congr x hx]
theorem indexA_congr {g g' : Nat → Option Blk} {x : V} {i : Int} (h : ∀ y, y ∈ (match x with | .ptr h _ => [h] | _ => ([] : List Nat)) → g y = g' y) : indexA g x i = indexA g' x i := by
  cases x
  case d x => cases x <;> rfl
  case rp x => cases x <;> rfl
  case ptr hh p =>
   simp only [indexA]
   rw [loadV_congr (g := g) (g' := g') (fun y hy => h y (by simpa [ptrs] using hy))]
  all_goals rfl
theorem appendV_congr {g g' : Nat → Option Blk} {n : Nat} {x y : V} (h : ∀ z ∈ ptrs x, g z = g' z) (h2 : ∀ z ∈ ptrs y, g z = g' z) : appendV g n x y = appendV g' n x y := by
  unfold appendV
  rw [elemsOf_congr h2]
  cases elemsOf g' y with
  | none => rfl
  | some ys =>
    cases x
    case d x => cases x <;> first | rfl | (rename_i nl l; cases nl <;> cases l <;> rfl)
    case asl n l => cases n <;> cases l <;> rfl
    case sl n hh off len =>
      simp only
      rw [h _ (by simp [ptrs])]
    all_goals rfl
theorem copyV_congr {g g' : Nat → Option Blk} {x y : V} (h : ∀ z ∈ ptrs x, g z = g' z) (h2 : ∀ z ∈ ptrs y, g z = g' z) : copyV g x y = copyV g' x y := by
  unfold copyV
  rw [elemsOf_congr h2]
  cases elemsOf g' y with
  | none => cases x <;> rfl
  | some ys =>
    cases x <;> first | rfl | skip
    simp only
    rw [h _ (by simp [ptrs])]
theorem clearV_congr {g g' : Nat → Option Blk} {z : D} {x : V} (h : ∀ z ∈ ptrs x, g z = g' z) : clearV g z x = clearV g' z x := by
  cases x <;> first | rfl | skip
  simp only [clearV]
  rw [h _ (by simp [ptrs])]

theorem val_congr {e e' : Env} {x : Opd} (h : ∀ t ∈ optmp x, look e t = look e' t) : val e x = val e' x := by
  cases x with
  | t n => exact h n (by simp [optmp])
  | c v => rfl
theorem vals_congr {e e' : Env} {xs : List Opd} (h : ∀ t ∈ xs.flatMap optmp, look e t = look e' t) : xs.map (val e) = xs.map (val e') :=
  List.map_congr_left fun x hx => val_congr fun t ht => h t (List.mem_flatMap.2 ⟨x, hx, ht⟩)
theorem anyUnd_congr {e e' : Env} : ∀ {xs : List Opd}, (∀ t ∈ xs.flatMap optmp, look e t = look e' t) → anyUnd e xs = anyUnd e' xs
  | [], _ => rfl
  | .t n :: l, h => by
    simp only [anyUnd]
    rw [h n (by simp [optmp]), anyUnd_congr (xs := l) (fun t ht => h t (by simp only [List.flatMap_cons, List.mem_append]; exact .inr ht))]
  | .c v :: l, h => by
    simp only [anyUnd]
    exact anyUnd_congr (xs := l) (fun t ht => h t (by simp only [List.flatMap_cons, List.mem_append]; exact .inr ht))
theorem optV_congr {e e' : Env} {x : Option Opd} (h : ∀ t ∈ x.toList.flatMap optmp, look e t = look e' t) : optV e x = optV e' x := by
  cases x with
  | none => rfl
  | some x =>
    simp only [optV]
    rw [val_congr (e := e) (e' := e') (x := x) (fun t ht => h t (by simpa using ht))]

end Go.Fw
namespace Go.Fw
open Go
theorem appendV_next {g : Nat → Option Blk} {n : Nat} {x y v : V} {u : Hp} {n' : Nat} (h : appendV g n x y = some (v, u, n')) : n' = n + 1 := by
  unfold appendV at h
  repeat' split at h
  all_goals first | (cases h; done) | (injection h with h; injection h with h1 h2; injection h2 with h2 h3; exact h3.symm)
theorem eff_next {i : KI} {e : Env} {g : Nat → Option Blk} {n : Nat} {v : V} {u : Hp} {n' : Nat} (h : eff i e g n = some (v, u, n')) : n' = n ∨ (n' = n + 1 ∧ i.allocs = true) := by
  cases i <;> simp only [eff] at h
  case app d x y => exact .inr ⟨appendV_next h, rfl⟩
  all_goals repeat' split at h
  all_goals first | (cases h; done) | skip
  all_goals (injection h with h; injection h with h1 h2; injection h2 with h2 h3)
  all_goals first | exact .inl h3.symm | exact .inr ⟨h3.symm, rfl⟩

/-- What is changed: what was to be written, and what is new. -/
theorem eff_keys {i : KI} {e : Env} {g : Nat → Option Blk} {n : Nat} {v : V} {u : Hp} {n' : Nat} (h : eff i e g n = some (v, u, n')) : ∀ p ∈ u, p.1 ∈ i.writes e ∨ (i.allocs = true ∧ p.1 = n ∧ n' = n + 1 ∧ p.1 ∈ v.hs) := by
  cases i <;> simp only [eff] at h
  case app d x y =>
    unfold appendV at h
    repeat' split at h
    all_goals first | (cases h; done) | skip
    all_goals (injection h with h; injection h with h1 h2; injection h2 with h2 h3; subst h1 h2 h3; intro p hp)
    · rcases List.mem_cons.1 hp with rfl | hp
      · exact .inl (by simp_all [KI.writes, ptrs])
      · simp only [List.mem_singleton] at hp; subst hp
        exact .inr ⟨rfl, rfl, rfl, by simp [V.hs]⟩
    · simp only [List.mem_singleton] at hp; subst hp
      exact .inr ⟨rfl, rfl, rfl, by simp [V.hs]⟩
    · simp only [List.mem_singleton] at hp; subst hp
      exact .inr ⟨rfl, rfl, rfl, by simp [V.hs]⟩
  case bsl d xs =>
    split at h
    · rename_i l u' hf
      injection h with h; injection h with h1 h2; injection h2 with h2 h3; subst h1 h2 h3
      intro p hp
      rcases List.mem_append.1 hp with hp | hp
      · exact .inl (freezes_keys _ hf p hp)
      · simp only [List.mem_singleton] at hp; subst hp
        exact .inr ⟨rfl, rfl, rfl, by simp [V.hs]⟩
    · cases h
  case st a x =>
    split at h
    · cases h
    · split at h
      · rename_i u' hu
        injection h with h; injection h with h1 h2; injection h2 with h2 h3; subst h1 h2 h3
        unfold saveV at hu
        repeat' split at hu
        all_goals first | (cases hu; done) | skip
        all_goals (injection hu with hu; subst hu; intro p hp)
        · simp only [List.mem_singleton] at hp; subst hp
          exact .inl (by simp_all [KI.writes, ptrs])
        · rcases List.mem_append.1 hp with hp | hp
          · refine .inl (List.mem_append_right _ (freeze_keys _ (by assumption) p hp))
          · simp only [List.mem_singleton] at hp; subst hp
            exact .inl (by simp_all [KI.writes, ptrs])
      · cases h
  case cpy d x y =>
    split at h
    · rename_i v' u' hu
      injection h with h; injection h with h1 h2; injection h2 with h2 h3; subst h1 h2 h3
      unfold copyV at hu
      repeat' split at hu
      all_goals first | (cases hu; done) | skip
      injection hu with hu; injection hu with e1 e2; subst e1 e2
      intro p hp
      simp only [List.mem_singleton] at hp; subst hp
      exact .inl (by simp_all [KI.writes, ptrs])
    · cases h
  case cvb d x =>
    repeat' split at h
    all_goals first | (cases h; done) | skip
    injection h with h; injection h with h1 h2; injection h2 with h2 h3; subst h1 h2 h3
    intro p hp
    simp only [List.mem_singleton] at hp; subst hp
    exact .inl (by simp_all [KI.writes, ptrs])
  case clr z x =>
    split at h
    · rename_i u' hu
      injection h with h; injection h with h1 h2; injection h2 with h2 h3; subst h1 h2 h3
      unfold clearV at hu
      repeat' split at hu
      all_goals first | (cases hu; done) | skip
      injection hu with hu; subst hu
      intro p hp
      simp only [List.mem_singleton] at hp; subst hp
      exact .inl (by simp_all [KI.writes, ptrs])
    · cases h
  case mu m k x =>
    repeat' split at h
    all_goals first | (cases h; done) | skip
    injection h with h; injection h with h1 h2; injection h2 with h2 h3; subst h1 h2 h3
    intro p hp
    simp only [List.mem_singleton] at hp; subst hp
    exact .inl (by simp_all [KI.writes, ptrs])
  all_goals repeat' split at h
  all_goals first | (cases h; done) | skip
  all_goals (injection h with h; injection h with h1 h2; injection h2 with h2 h3; subst h1 h2 h3; intro p hp)
  all_goals first | (simp at hp; done) | skip
  all_goals (simp only [List.mem_singleton] at hp; subst hp; exact .inr ⟨rfl, rfl, rfl, by simp [V.hs]⟩)
theorem writes_reads {i : KI} {e : Env} : ∀ h ∈ i.writes e, h ∈ i.reads e := by
  intro h hh
  cases i <;> simp only [KI.writes, KI.reads, List.not_mem_nil] at hh ⊢ <;> first | exact hh | exact List.mem_append_left _ hh
end Go.Fw
namespace Go.Fw
open Go
theorem eff_congr {i : KI} {e e' : Env} {g g' : Nat → Option Blk} {n : Nat} (he : ∀ t ∈ i.tmps, look e t = look e' t) (hg : ∀ h ∈ i.reads e, g h = g' h) : eff i e g n = eff i e' g' n := by
  have v1 : ∀ x ∈ i.ops, val e x = val e' x := fun x hx => val_congr fun t ht => he t (List.mem_flatMap.2 ⟨x, hx, ht⟩)
  cases i
  case mv d x => simp only [eff]; rw [v1 x (by simp [KI.ops])]
  case pick d c a b => simp only [eff]; rw [v1 c (by simp [KI.ops]), v1 a (by simp [KI.ops]), v1 b (by simp [KI.ops])]
  case box d x => simp only [eff]; rw [v1 x (by simp [KI.ops])]
  case alc d z => rfl
  case bld d xs => simp only [eff]; rw [anyUnd_congr (e := e) (e' := e') (xs := xs) he, vals_congr (e := e) (e' := e') (xs := xs) he]
  case bsl d xs => simp only [eff]; rw [freezes_congr _ hg, vals_congr (e := e) (e' := e') (xs := xs) he]
  case ld d x => simp only [eff]; rw [loadV_congr hg, v1 x (by simp [KI.ops])]
  case st a x =>
    simp only [eff]
    rw [saveV_congr (fun y hy => hg y (List.mem_append_left _ hy)) (fun y hy => hg y (List.mem_append_right _ hy)), v1 a (by simp [KI.ops]), v1 x (by simp [KI.ops])]
  case bin d op x y => simp only [eff]; rw [v1 x (by simp [KI.ops]), v1 y (by simp [KI.ops])]
  case un d op x => simp only [eff]; rw [v1 x (by simp [KI.ops])]
  case cv d k x => simp only [eff]; rw [v1 x (by simp [KI.ops])]
  case mkf d f a b =>
    simp only [eff]
    rw [vals_congr (e := e) (e' := e') (xs := a) (fun t ht => he t (by simp only [KI.tmps, KI.ops, List.flatMap_append, List.mem_append]; exact .inl ht)),
      vals_congr (e := e) (e' := e') (xs := b) (fun t ht => he t (by simp only [KI.tmps, KI.ops, List.flatMap_append, List.mem_append]; exact .inr ht))]
  case mkm d => rfl
  case tob d x => simp only [eff]; rw [v1 x (by simp [KI.ops])]
  case cap d x => simp only [eff]; rw [v1 x (by simp [KI.ops])]
  case apz d x z c => simp only [eff]; rw [v1 x (by simp [KI.ops]), v1 c (by simp [KI.ops])]
  case mks d z l c => simp only [eff]; rw [v1 l (by simp [KI.ops]), v1 c (by simp [KI.ops])]
  case slc d x lo hi =>
    simp only [eff]
    rw [v1 x (by simp [KI.ops]), optV_congr (e := e) (e' := e') (x := lo) (fun t ht => he t (by simp only [KI.tmps, KI.ops, List.flatMap_cons, List.flatMap_append, List.mem_append]; exact .inr (.inl ht))),
      optV_congr (e := e) (e' := e') (x := hi) (fun t ht => he t (by simp only [KI.tmps, KI.ops, List.flatMap_cons, List.flatMap_append, List.mem_append]; exact .inr (.inr ht)))]
  case fa d x i => simp only [eff]; rw [v1 x (by simp [KI.ops])]
  case fd d x i => simp only [eff]; rw [v1 x (by simp [KI.ops])]
  case ia d x i =>
    simp only [eff]
    have hx := v1 x (by simp [KI.ops])
    have hi := v1 i (by simp [KI.ops])
    rw [← hi, ← hx]
    have : ∀ j, indexA g (val e x) j = indexA g' (val e x) j := fun j => indexA_congr (fun y hy => hg y hy)
    split
    · rw [this]
    · rfl
  case ix d x i => simp only [eff]; rw [v1 x (by simp [KI.ops]), v1 i (by simp [KI.ops])]
  case lk d m k z ok =>
    simp only [eff]
    have hm := v1 m (by simp [KI.ops])
    have hk := v1 k (by simp [KI.ops])
    rw [← hm, ← hk]
    split
    · rename_i h x he1 he2
      rw [hg h (by simp [KI.reads, ptrs, he1])]
    · rfl
  case mu m k v =>
    simp only [eff]
    have hm := v1 m (by simp [KI.ops])
    have hk := v1 k (by simp [KI.ops])
    have hv := v1 v (by simp [KI.ops])
    rw [← hm, ← hk, ← hv]
    split
    · rfl
    · split
      · rename_i h x he1 he2
        rw [hg h (by simp [KI.reads, ptrs, he1])]
      · rfl
  case ex d x i => simp only [eff]; rw [v1 x (by simp [KI.ops])]
  case len d x => simp only [eff]; rw [v1 x (by simp [KI.ops])]
  case mx d xs => simp only [eff]; rw [vals_congr (e := e) (e' := e') (xs := xs) he]
  case mn d xs => simp only [eff]; rw [vals_congr (e := e) (e' := e') (xs := xs) he]
  case app d x y =>
    simp only [eff]
    rw [appendV_congr (fun z hz => hg z (List.mem_append_left _ hz)) (fun z hz => hg z (List.mem_append_right _ hz)), v1 x (by simp [KI.ops]), v1 y (by simp [KI.ops])]
  case cpy d x y =>
    simp only [eff]
    rw [copyV_congr (fun z hz => hg z (List.mem_append_left _ hz)) (fun z hz => hg z (List.mem_append_right _ hz)), v1 x (by simp [KI.ops]), v1 y (by simp [KI.ops])]
  case cvb d x =>
    simp only [eff]
    rw [v1 x (by simp [KI.ops])]
    cases hv : val e' x <;> first | rfl | skip
    rename_i a h off len
    cases a <;> first | rfl | skip
    cases off <;> first | rfl | skip
    have := hg h (by simp [KI.reads, v1 x (by simp [KI.ops]), hv, ptrs])
    simp only [this]
  case clr z x => simp only [eff]; rw [clearV_congr hg, v1 x (by simp [KI.ops])]
  case cal d f xs => rfl
  case dat d f xs => rfl
  case daf d f xs => rfl
  case das d f xs => rfl
  case cad d f xs nt => rfl
  case cav d f xs => rfl
  case tos d x => simp only [eff]; rw [elemsOf_congr hg, v1 x (by simp [KI.ops])]
  case nck d x => simp only [eff]; rw [v1 x (by simp [KI.ops])]
  case bad d => rfl

end Go.Fw
namespace Go.Fw
open Go Go.RowKit
variable {P : Program}

theorem rens_get {r : Nat → Nat} : ∀ (l : List V) (i : Nat), (V.rens r l)[i]? = (l[i]?).map (·.ren r)
  | [], i => by simp [V.rens]
  | v :: l, 0 => by simp [V.rens]
  | v :: l, i + 1 => by simp [V.rens, rens_get l i]
theorem rens_length {r : Nat → Nat} : ∀ (l : List V), (V.rens r l).length = l.length
  | [] => rfl
  | v :: l => by simp [V.rens, rens_length l]
theorem mem_hss {l : List V} {i : Nat} {v : V} (hv : l[i]? = some v) {h : Nat} (hh : h ∈ v.hs) : h ∈ V.hss l := by
  induction l generalizing i with
  | nil => simp at hv
  | cons w l ih =>
    simp only [V.hss, List.mem_append]
    cases i with
    | zero => simp at hv; subst hv; exact .inl hh
    | succ i => exact .inr (ih (by simpa using hv))
def Ctx.withρ (C : Ctx) (ρ : Nat → Option Loc) : Ctx := { C with ρ := ρ }
theorem VR.ren {C : Ctx} {ρ' : Nat → Option Loc} {r : Nat → Nat} {ty : Ty} {v : V} {cs : List Value} (h : VR P C ty v cs) : (∀ x ∈ v.hs, ∀ L, C.ρ x = some L → ρ' (r x) = some L) → VR P (C.withρ ρ') ty (v.ren r) cs := by
  induction h with
  | int h => intro _; exact .int h
  | bool => intro _; exact .bool
  | d h1 h2 => intro _; exact .d h1 h2
  | struct h1 h0 h2 h3 _ ih =>
    intro hh
    refine .struct h1 h0 h2 (by rw [rens_length, h3]) (fun i f v hf hv => ?_)
    rw [rens_get, Option.map_eq_some_iff] at hv
    obtain ⟨w, hw, rfl⟩ := hv
    exact ih i f w hf hw (fun x hx => hh x (mem_hss hw hx))
  | array h1 h0 h2 h3 _ ih =>
    intro hh
    refine .array h1 h0 h2 (by rw [rens_length, h3]) (fun i v hv => ?_)
    rw [rens_get, Option.map_eq_some_iff] at hv
    obtain ⟨w, hw, rfl⟩ := hv
    exact ih i w hw (fun x hx => hh x (mem_hss hw hx))
  | asl h1 => intro _; exact .asl h1
  | sl h1 =>
    intro hh
    obtain ⟨L, hL, k⟩ := h1
    exact .sl ⟨L, hh _ (by simp [V.hs]) L hL, k⟩
  | ptr h1 =>
    intro hh
    obtain ⟨L, b, o, hL, k⟩ := h1
    exact .ptr ⟨L, b, o, hh _ (by simp [V.hs]) L hL, k⟩
  | rp h1 h2 h3 => intro _; exact .rp h1 h2 h3
  | map h1 h2 h3 => intro hh; exact .map (hh _ (by simp [V.hs]) _ h1) h2 h3
  | @clo f first caps fa ca t h0 h1 h2 h3 h4 h5 h6 h7 h8 _ _ ih1 ih2 =>
    intro hh
    refine .clo (by rw [rens_length]; exact h0) (by rw [rens_length]; exact h1) (by rw [rens_length]; exact h2) (by rw [rens_length]; exact h3) (by rw [rens_length]; exact h4) h5 h6 (by rw [rens_length]; exact h7) h8 (fun i ty v c ht hv hc => ?_) (fun i ty v c ht hv hc => ?_)
    · rw [rens_get, Option.map_eq_some_iff] at hv
      obtain ⟨w, hw, rfl⟩ := hv
      exact ih1 i ty w c ht hw hc (fun x hx => hh x (by simp only [V.hs, List.mem_append]; exact .inl (mem_hss hw hx)))
    · rw [rens_get, Option.map_eq_some_iff] at hv
      obtain ⟨w, hw, rfl⟩ := hv
      exact ih2 i ty w c ht hw hc (fun x hx => hh x (by simp only [V.hs, List.mem_append]; exact .inr (mem_hss hw hx)))
  | und h1 => intro _; exact .und h1
theorem VT.ren {C : Ctx} {ρ' : Nat → Option Loc} {r : Nat → Nat} {tt : TTy} {v : V} {x : Value} (h : VT P C tt v x) (hh : ∀ y ∈ v.hs, ∀ L, C.ρ y = some L → ρ' (r y) = some L) : VT P (C.withρ ρ') tt (v.ren r) x := by
  rcases h with h | ⟨h1, h2⟩ | h
  · subst h; exact .inl rfl
  · subst h1; exact .inr (.inl ⟨rfl, h2⟩)
  · refine .inr (.inr ?_)
    cases tt with
    | o ty => exact ⟨h.1.ren hh, h.2⟩
    | t l =>
      obtain ⟨vs, ws, rfl, rfl, h3, h4, h5⟩ := h
      refine ⟨V.rens r vs, ws, rfl, rfl, by rw [rens_length, h3], h4, fun i ty v w ht hv hw => ?_⟩
      rw [rens_get, Option.map_eq_some_iff] at hv
      obtain ⟨v0, hv0, rfl⟩ := hv
      rcases h5 i ty v0 w ht hv0 hw with k | k
      · subst k; exact .inl rfl
      · exact .inr ⟨k.1.ren (fun y hy => hh y (mem_hss hv0 hy)), k.2⟩
theorem mapRen_get {r : Nat → Nat} : ∀ (l : List (D × V)) (i : Nat), (mapRen r l)[i]? = (l[i]?).map (fun p => (p.1, p.2.ren r))
  | [], i => by simp [mapRen]
  | (k, v) :: l, 0 => by simp [mapRen]
  | (k, v) :: l, i + 1 => by simp [mapRen, mapRen_get l i]
theorem mapRen_length {r : Nat → Nat} : ∀ (l : List (D × V)), (mapRen r l).length = l.length
  | [] => rfl
  | (k, v) :: l => by simp [mapRen, mapRen_length l]
theorem mapRen_mem {r : Nat → Nat} : ∀ {l : List (D × V)} {p : D × V}, p ∈ mapRen r l → ∃ q ∈ l, q.1 = p.1
  | [], p, h => by simp [mapRen] at h
  | (k, v) :: l, p, h => by
    simp only [mapRen, List.mem_cons] at h
    rcases h with rfl | h
    · exact ⟨(k, v), List.mem_cons_self, rfl⟩
    · obtain ⟨q, h1, h2⟩ := mapRen_mem h
      exact ⟨q, List.mem_cons_of_mem _ h1, h2⟩
theorem mapRen_apart {r : Nat → Nat} : ∀ {l : List (D × V)}, l.Pairwise (fun p q => p.1 ≠ q.1) → (mapRen r l).Pairwise (fun p q => p.1 ≠ q.1)
  | [], _ => List.Pairwise.nil
  | (k, v) :: l, h => by
    obtain ⟨h1, h2⟩ := List.pairwise_cons.1 h
    refine List.pairwise_cons.2 ⟨fun p hp => ?_, mapRen_apart h2⟩
    obtain ⟨q, hq, e⟩ := mapRen_mem hp
    rw [← e]
    exact h1 q hq
theorem ren_und {v : V} {r : Nat → Nat} (h : v = .und) : v.ren r = .und := by subst h; rfl
/-- A block under a new handle. -/
theorem BR.ren {C : Ctx} {own : Nat → Prop} {ρ' : Nat → Option Loc} {r : Nat → Nat} {h h' : Nat} {x : Blk} (hb : BR P C own h x) (hL : ∀ L, C.ρ h = some L → ρ' h' = some L) (hh : ∀ y ∈ x.hs, ∀ L, C.ρ y = some L → ρ' (r y) = some L) : BR P (C.withρ ρ') own h' (x.ren r) := by
  cases x with
  | dead => trivial
  | box v =>
    obtain ⟨L, b, c, h1, h2, h3, h4, h5, h6, h7⟩ := hb
    exact ⟨L, b, c, hL L h1, h2, h3, h4, h5, h6, h7.ren hh⟩
  | row o l =>
    obtain ⟨L, h1, h2, h3⟩ := hb
    exact ⟨L, hL L h1, h2, h3⟩
  | mp l =>
    obtain ⟨L, b, es, clock, kt, et, h1, h2, h3, h4, h5, h6, h6', h7⟩ := hb
    refine ⟨L, b, es, clock, kt, et, hL L h1, h2, h3, h4, h5, by rw [mapRen_length, h6], mapRen_apart h6', fun i k v hi => ?_⟩
    rw [mapRen_get, Option.map_eq_some_iff] at hi
    obtain ⟨⟨k0, v0⟩, hi0, e0⟩ := hi
    injection e0 with e1 e2; subst e1 e2
    obtain ⟨e, k1, k2, k3, k4⟩ := h7 i k0 v0 hi0
    refine ⟨e, k1, k2, k3, ?_⟩
    rcases k4 with k4 | ⟨k4, k5⟩
    · exact .inl (ren_und k4)
    · refine .inr ⟨k4.ren (fun y hy => hh y ?_), k5⟩
      exact mem_hss (l := l.map (·.2)) (i := i) (by simp [hi0]) hy
theorem Blk.owns_ren {x : Blk} {r : Nat → Nat} : (x.ren r).owns = x.owns := by cases x <;> rfl

/-! ### Handles that are reached -/
theorem idx_get : ∀ (l : List Nat) (h : Nat), h ∈ l → l[idx l h]? = some h
  | [], h, hh => by simp at hh
  | a :: l, h, hh => by
    simp only [idx]
    by_cases e : a = h
    · rw [if_pos e]; simp [e]
    · rw [if_neg e]
      rcases List.mem_cons.1 hh with k | k
      · exact absurd k.symm e
      · simp [idx_get l h k]
theorem nodup_inj : ∀ {l : List Nat}, nodup l = true → ∀ (i j : Nat) (a : Nat), l[i]? = some a → l[j]? = some a → i = j
  | [], _, i, j, a, hi, _ => by simp at hi
  | b :: l, hn, i, j, a, hi, hj => by
    rw [nodup_cons] at hn
    cases i with
    | zero =>
      cases j with
      | zero => rfl
      | succ j =>
        simp at hi hj
        subst hi
        exact absurd (List.mem_of_getElem? hj) hn.1
    | succ i =>
      cases j with
      | zero =>
        simp at hi hj
        subst hj
        exact absurd (List.mem_of_getElem? hi) hn.1
      | succ j => rw [nodup_inj hn.2 i j a (by simpa using hi) (by simpa using hj)]
theorem nodup_snoc : ∀ {l : List Nat} {a : Nat}, nodup l = true → a ∉ l → nodup (l ++ [a]) = true
  | [], a, _, _ => by simp [nodup]
  | b :: l, a, hn, ha => by
    rw [nodup_cons] at hn
    rw [List.cons_append, nodup_cons]
    refine ⟨fun h => ?_, nodup_snoc hn.2 (fun h => ha (List.mem_cons_of_mem _ h))⟩
    rcases List.mem_append.1 h with k | k
    · exact hn.1 k
    · simp at k; subst k; exact ha List.mem_cons_self
theorem reach_spec {g : Nat → Option Blk} {base : Nat} : ∀ (k : Nat) (todo seen : List Nat), (∀ h ∈ seen, base ≤ h) → nodup seen = true → (∀ h ∈ reach g base k todo seen, base ≤ h) ∧ nodup (reach g base k todo seen) = true
  | 0, todo, seen, h1, h2 => by simp only [reach]; exact ⟨h1, h2⟩
  | k + 1, [], seen, h1, h2 => by simp only [reach]; exact ⟨h1, h2⟩
  | k + 1, h :: t, seen, h1, h2 => by
    simp only [reach]
    split
    · exact reach_spec k t seen h1 h2
    · split
      · exact reach_spec k t seen h1 h2
      · rename_i hb hc
        refine reach_spec k _ (seen ++ [h]) (fun x hx => ?_) (nodup_snoc h2 (by simpa [List.contains_eq_mem] using hc))
        rcases List.mem_append.1 hx with hx | hx
        · exact h1 x hx
        · simp at hx; subst hx; omega
theorem look_ren {r : Nat → Nat} : ∀ (e : Env) (i : Nat), look (envRen r e) i = (look e i).ren r
  | [], i => rfl
  | (j, v) :: e, i => by
    simp only [envRen, look]
    split
    · rfl
    · exact look_ren e i
theorem look_hs : ∀ (e : Env) (i : Nat), ∀ h ∈ (look e i).hs, h ∈ envHs e
  | [], i, h, hh => by simp [look, V.hs] at hh
  | (j, v) :: e, i, h, hh => by
    simp only [look] at hh
    simp only [envHs, List.mem_append]
    split at hh
    · exact .inl hh
    · exact .inr (look_hs e i h hh)
theorem hlook_ren {r : Nat → Nat} : ∀ (s : Hp) (h : Nat), hlook (hpRen r s) h = (hlook s h).map (·.ren r)
  | [], h => rfl
  | (j, b) :: s, h => by
    simp only [hpRen, hlook]
    split
    · rfl
    · exact hlook_ren s h
theorem hlook_outer {base : Nat} : ∀ (s : Hp) (h : Nat), hlook (outer base s) h = if h < base then hlook s h else none
  | [], h => by simp [outer, hlook]
  | (j, b) :: s, h => by
    simp only [outer]
    split
    · rename_i hj
      simp only [hlook]
      split
      · rename_i e; subst e; rw [if_pos hj]
      · exact hlook_outer s h
    · rename_i hj
      rw [hlook_outer s h]
      simp only [hlook]
      split
      · rename_i hb
        rw [if_neg (by omega)]
      · rfl
theorem hlook_app : ∀ (s t : Hp) (h : Nat), hlook (s ++ t) h = match hlook s h with | some b => some b | none => hlook t h
  | [], t, h => rfl
  | (j, b) :: s, t, h => by
    simp only [List.cons_append, hlook]
    split
    · rfl
    · exact hlook_app s t h
theorem hlook_gathered {g : Nat → Option Blk} {r : Nat → Nat} : ∀ (l : List Nat) (n h : Nat), hlook (gathered g r n l) h = if n ≤ h then (l[h - n]?).map (fun x => match g x with | some b => b.ren r | none => .dead) else none
  | [], n, h => by simp [gathered, hlook]
  | a :: l, n, h => by
    simp only [gathered, hlook]
    split
    · rename_i e; subst e; simp; cases g a <;> rfl
    · rename_i e
      rw [hlook_gathered l (n + 1) h]
      by_cases hn : n ≤ h
      · have e1 : h - n = (h - (n + 1)) + 1 := by omega
        rw [if_pos (by omega), if_pos hn, e1]
        simp
      · rw [if_neg (by omega), if_neg hn]
theorem hpHs_mem : ∀ (s : Hp) (h : Nat) (b : Blk), hlook s h = some b → ∀ x ∈ b.hs, x ∈ hpHs s
  | [], h, b, e, _, _ => by simp [hlook] at e
  | (j, c) :: s, h, b, e, x, hx => by
    simp only [hlook] at e
    simp only [hpHs, List.mem_append]
    split at e
    · injection e with e; subst e; exact .inl hx
    · exact .inr (hpHs_mem s h b e x hx)
theorem keys_ren {r : Nat → Nat} : ∀ (s : Hp), (hpRen r s).map (·.1) = s.map (·.1)
  | [] => rfl
  | (j, b) :: s => by simp [hpRen, keys_ren s]
theorem keys_outer {base : Nat} : ∀ (s : Hp) (h : Nat), h ∈ (outer base s).map (·.1) → h < base ∧ h ∈ s.map (·.1)
  | [], h, hh => by simp [outer] at hh
  | (j, b) :: s, h, hh => by
    simp only [outer] at hh
    split at hh
    · rename_i hj
      simp only [List.map_cons, List.mem_cons] at hh
      rcases hh with hh | hh
      · subst hh; exact ⟨hj, by simp⟩
      · have := keys_outer s h hh
        exact ⟨this.1, by simp only [List.map_cons, List.mem_cons]; exact .inr this.2⟩
    · have := keys_outer s h hh
      exact ⟨this.1, by simp only [List.map_cons, List.mem_cons]; exact .inr this.2⟩
theorem nodup_outer {base : Nat} : ∀ {s : Hp}, nodup (s.map (·.1)) = true → nodup ((outer base s).map (·.1)) = true
  | [], _ => rfl
  | (j, b) :: s, hs => by
    rw [List.map_cons, nodup_cons] at hs
    simp only [outer]
    split
    · rw [List.map_cons, nodup_cons]
      exact ⟨fun h => hs.1 (keys_outer s j h).2, nodup_outer hs.2⟩
    · exact nodup_outer hs.2
theorem keys_gathered {g : Nat → Option Blk} {r : Nat → Nat} : ∀ (l : List Nat) (n : Nat), nodup ((gathered g r n l).map (·.1)) = true ∧ ∀ h ∈ (gathered g r n l).map (·.1), n ≤ h
  | [], n => by simp [gathered, nodup]
  | a :: l, n => by
    obtain ⟨h1, h2⟩ := keys_gathered (g := g) (r := r) l (n + 1)
    simp only [gathered, List.map_cons]
    rw [nodup_cons]
    refine ⟨⟨fun h => ?_, h1⟩, fun h hh => ?_⟩
    · have := h2 n h; omega
    · rcases List.mem_cons.1 hh with hh | hh
      · omega
      · have := h2 h hh; omega
theorem nodup_app : ∀ {l m : List Nat}, nodup l = true → nodup m = true → (∀ a ∈ l, a ∉ m) → nodup (l ++ m) = true
  | [], m, _, hm, _ => hm
  | a :: l, m, hl, hm, hd => by
    rw [nodup_cons] at hl
    rw [List.cons_append, nodup_cons]
    refine ⟨fun h => ?_, nodup_app hl.2 hm (fun b hb => hd b (List.mem_cons_of_mem _ hb))⟩
    rcases List.mem_append.1 h with h | h
    · exact hl.1 h
    · exact hd a List.mem_cons_self h
end Go.Fw
namespace Go.Fw
open Go Go.RowKit
variable {P : Program}

/-- Only the handles count for less. -/
theorem BR.lessρ {C : Ctx} {own : Nat → Prop} {ρ' : Nat → Option Loc} (hρ : ∀ h L, C.ρ h = some L → ρ' h = some L) {h : Nat} {x : Blk} (hb : BR P C own h x) : BR P (C.withρ ρ') own h x := by
  have le : C.Le (C.withρ ρ') := ⟨fun _ h => h, fun _ h => h, fun _ _ => rfl, fun _ _ => rfl, hρ, rfl⟩
  cases x with
  | dead => trivial
  | box v =>
    obtain ⟨L, b, c, h1, h2, h3, h4, h5, h6, h7⟩ := hb
    exact ⟨L, b, c, hρ _ _ h1, h2, h3, h4, h5, h6, h7.mono le⟩
  | row o l =>
    obtain ⟨L, h1, h2, h3⟩ := hb
    exact ⟨L, hρ _ _ h1, h2, h3⟩
  | mp l =>
    obtain ⟨L, r, es, clock, kt, et, h1, h2, h3, h4, h5, h6, h6', h7⟩ := hb
    refine ⟨L, r, es, clock, kt, et, hρ _ _ h1, h2, h3, h4, h5, h6, h6', fun i k v hi => ?_⟩
    obtain ⟨e, e1, e2, e3, e4⟩ := h7 i k v hi
    refine ⟨e, e1, e2, e3, ?_⟩
    rcases e4 with e4 | ⟨e4, e5⟩
    · exact .inl e4
    · exact .inr ⟨e4.mono le, e5⟩
theorem BR.locd {C : Ctx} {own : Nat → Prop} {h : Nat} {x : Blk} (hb : BR P C own h x) (hd : x ≠ .dead) : ∃ L, C.ρ h = some L := by
  cases x with
  | dead => exact absurd rfl hd
  | box v => obtain ⟨L, _, _, h1, _⟩ := hb; exact ⟨L, h1⟩
  | row o l => obtain ⟨L, h1, _⟩ := hb; exact ⟨L, h1⟩
  | mp l => obtain ⟨L, _, _, _, _, _, h1, _⟩ := hb; exact ⟨L, h1⟩

mutual
theorem ren_hs {r : Nat → Nat} : ∀ (v : V), (v.ren r).hs = v.hs.map r
  | .int _ _ => rfl
  | .bool _ => rfl
  | .d _ => rfl
  | .agg l => by simp only [V.ren, V.hs]; exact rens_hss l
  | .asl _ _ => rfl
  | .sl _ _ _ _ => rfl
  | .ptr _ _ => rfl
  | .rp _ => rfl
  | .clo _ a b => by simp only [V.ren, V.hs, List.map_append]; rw [rens_hss a, rens_hss b]
  | .map _ => rfl
  | .tup l => by simp only [V.ren, V.hs]; exact rens_hss l
  | .und => rfl
theorem rens_hss {r : Nat → Nat} : ∀ (l : List V), V.hss (V.rens r l) = (V.hss l).map r
  | [] => rfl
  | v :: l => by simp only [V.rens, V.hss, List.map_append]; rw [ren_hs v, rens_hss l]
end
theorem mapRen_snd {r : Nat → Nat} : ∀ (l : List (D × V)), V.hss ((mapRen r l).map (·.2)) = (V.hss (l.map (·.2))).map r
  | [] => rfl
  | (k, v) :: l => by simp only [mapRen, List.map_cons, V.hss, List.map_append]; rw [ren_hs v, mapRen_snd l]
theorem Blk.ren_hs {r : Nat → Nat} (x : Blk) : (x.ren r).hs = x.hs.map r := by
  cases x with
  | box v => exact Fw.ren_hs v
  | row o l => rfl
  | mp l => exact mapRen_snd l
  | dead => rfl

section
variable {E : Fr} {tys tys' : Nat → TTy} {U : Nat → Prop} {s : St} {a a' : Act} {w : World}

/-- Where the new handles lie. -/
def newρ (base : Nat) (seen : List Nat) (ρ : Nat → Option Loc) (h : Nat) : Option Loc := if h < base then ρ h else (seen[h - base]?).bind ρ
theorem newρ_ren {base : Nat} {seen : List Nat} {ρ : Nat → Option Loc} {y : Nat} (hy : y < base ∨ y ∈ seen) {L : Loc} (h : ρ y = some L) : newρ base seen ρ (renOf base seen y) = some L := by
  unfold newρ renOf
  by_cases hb : y < base
  · rw [if_pos hb, if_pos hb]; exact h
  · rw [if_neg hb, if_neg (by omega)]
    have := idx_get seen y (hy.resolve_left hb)
    rw [Nat.add_sub_cancel_left, this]
    exact h

theorem RelB.canon {ρ : Nat → Option Loc} {own : Nat → Prop} (hb : RelB P E tys U s a w ρ own) {e : Env} {s' : St} (he : ∀ i, VT P (cx E w.heap own ρ) (tys' i) (look e i) (a'.tmps.getD i undef)) (hc : Fw.canon e s = some s') :
    (∃ ρ', RelB P E tys' (fun h => h < s'.next) s' a' w ρ' own) ∧ s'.base = s.base ∧ s'.tl = s.tl := by
  simp only [Fw.canon] at hc
  generalize hseen : reach s.g s.base 4096 (envHs e ++ hpHs (outer s.base s.hp)) [] = seen at hc
  split at hc
  · rename_i hall
    injection hc with hc; subst hc
    refine ⟨⟨newρ s.base seen ρ, ?_⟩, rfl, rfl⟩
    obtain ⟨hge, hnd⟩ : (∀ h ∈ seen, s.base ≤ h) ∧ nodup seen = true := by rw [← hseen]; exact reach_spec _ _ [] (fun h hh => by simp at hh) rfl
    rw [List.all_eq_true] at hall
    have hin : ∀ y, (y ∈ envHs e ∨ y ∈ hpHs (outer s.base s.hp) ∨ y ∈ hpHs (gathered s.g id s.base seen)) → y < s.base ∨ y ∈ seen := by
      intro y hy
      have := hall y (by simp only [List.mem_append]; rcases hy with k | k | k; exact .inl (.inl k); exact .inl (.inr k); exact .inr k)
      simpa [List.contains_eq_mem] using this
    have hlow : ∀ h L, ltρ s.base ρ h = some L → newρ s.base seen ρ h = some L := by
      intro h L hL
      unfold ltρ at hL
      unfold newρ
      split at hL
      · rename_i hlt; rw [if_pos hlt]; exact hL
      · cases hL
    let s' : St := { env := envRen (renOf s.base seen) e, hp := hpRen (renOf s.base seen) (outer s.base s.hp) ++ gathered s.g (renOf s.base seen) s.base seen, tl := s.tl, base := s.base, next := s.base + seen.length }
    -- what a new handle stands for
    have hold : ∀ h x, s'.g h = some x → x = .dead ∨ (∃ x0, (h < s.base ∧ hlook s.hp h = some x0 ∧ x = x0.ren (renOf s.base seen) ∧ ∀ y ∈ x0.hs, y < s.base ∨ y ∈ seen)) ∨ (h < s.base ∧ hlook s.hp h = none ∧ s.tl h = some x ∧ BR P (cx E w.heap own (ltρ s.base ρ)) own h x) ∨
        (∃ h0 x0, s.base ≤ h ∧ seen[h - s.base]? = some h0 ∧ s.g h0 = some x0 ∧ x = x0.ren (renOf s.base seen) ∧ ∀ y ∈ x0.hs, y < s.base ∨ y ∈ seen) := by
      intro h x hx
      have hx' : (match hlook (hpRen (renOf s.base seen) (outer s.base s.hp) ++ gathered s.g (renOf s.base seen) s.base seen) h with | some b => some b | none => s.tl h) = some x := hx
      rw [hlook_app, hlook_ren, hlook_outer, hlook_gathered] at hx'
      have htl : ∀ {x}, s.tl h = some x → x = .dead ∨ (h < s.base ∧ BR P (cx E E.w1.heap E.own1 (ltρ s.base E.ρ1)) E.own1 h x) := by
        intro x ht
        by_cases hd : x = .dead
        · exact .inl hd
        · have hs := hb.start h x ht
          obtain ⟨L, hL⟩ := hs.locd hd
          have hL' : ltρ s.base E.ρ1 h = some L := hL
          unfold ltρ at hL'
          split at hL'
          · rename_i hlt; exact .inr ⟨hlt, hs⟩
          · cases hL'
      by_cases hlt : h < s.base
      · rw [if_pos hlt] at hx'
        cases hk : hlook s.hp h with
        | some x0 =>
          rw [hk] at hx'
          simp only [Option.map_some] at hx'
          injection hx' with hx'
          refine .inr (.inl ⟨x0, hlt, rfl, hx'.symm, fun y hy => hin y (.inr (.inl (hpHs_mem _ h x0 ?_ y hy)))⟩)
          rw [hlook_outer, if_pos hlt]; exact hk
        | none =>
          rw [hk, if_neg (by omega)] at hx'
          simp only [Option.map_none] at hx'
          rcases htl hx' with k | ⟨_, k⟩
          · exact .inl k
          · exact .inr (.inr (.inl ⟨hlt, rfl, hx', hb.tail s.base (Nat.le_refl _) h x hk hx' k⟩))
      · rw [if_neg hlt, if_pos (by omega)] at hx'
        simp only [Option.map_none] at hx'
        cases hg : seen[h - s.base]? with
        | some h0 =>
          rw [hg] at hx'
          simp only [Option.map_some] at hx'
          cases hg0 : s.g h0 with
          | some x0 =>
            rw [hg0] at hx'
            injection hx' with hx'
            refine .inr (.inr (.inr ⟨h0, x0, by omega, rfl, hg0, hx'.symm, fun y hy => hin y (.inr (.inr (hpHs_mem _ h (x0.ren id) ?_ y ?_)))⟩))
            · rw [hlook_gathered, if_pos (by omega), hg]
              simp [hg0]
            · rw [Blk.ren_hs]; simpa using hy
          | none =>
            rw [hg0] at hx'
            injection hx' with hx'
            exact .inl hx'.symm
        | none =>
          rw [hg] at hx'
          simp only [Option.map_none] at hx'
          rcases htl hx' with k | ⟨k, _⟩
          · exact .inl k
          · exact absurd k hlt
    let orig : Nat → Nat := fun h => if h < s.base then h else (seen[h - s.base]?).getD 0
    have horig : ∀ h x, s'.g h = some x → x.owns = true → ∃ x0, s.g (orig h) = some x0 ∧ x0.owns = true ∧ newρ s.base seen ρ h = ρ (orig h) ∧ (¬ h < s.base → seen[h - s.base]? = some (orig h)) := by
      intro h x hx ho
      rcases hold h x hx with rfl | ⟨x0, h1, h2, rfl, _⟩ | ⟨h1, h2, h3, _⟩ | ⟨h0, x0, h1, h2, h3, rfl, _⟩
      · cases ho
      · refine ⟨x0, ?_, by rw [← ho]; exact (Blk.owns_ren).symm, ?_, fun h => absurd h1 h⟩
        · simp only [orig, if_pos h1]; simp only [St.g, h2]
        · simp only [orig, if_pos h1, newρ]
      · refine ⟨x, ?_, ho, ?_, fun h => absurd h1 h⟩
        · simp only [orig, if_pos h1]; simp only [St.g, h2]; exact h3
        · simp only [orig, if_pos h1, newρ]
      · have hn : ¬ h < s.base := by omega
        refine ⟨x0, ?_, by rw [← ho]; exact (Blk.owns_ren).symm, ?_, fun _ => ?_⟩
        · simp only [orig, if_neg hn, h2, Option.getD_some]; exact h3
        · simp only [orig, if_neg hn, newρ, h2, Option.getD_some, Option.bind_some]
        · simp only [orig, if_neg hn, h2, Option.getD_some]
    exact
      { heap :=
          { bnd := hb.heap.bnd
            fresh := fun h L hL => by
              show h < s.base + seen.length
              unfold newρ at hL
              split at hL
              · omega
              · rw [Option.bind_eq_some_iff] at hL
                obtain ⟨h0, h1, _⟩ := hL
                have := (List.getElem?_eq_some_iff.1 h1).1
                omega
            blk := fun h x hx => by
              rcases hold h x hx with rfl | ⟨x0, h1, h2, rfl, h4⟩ | ⟨h1, h2, h3, h4⟩ | ⟨h0, x0, h1, h2, h3, rfl, h4⟩
              · trivial
              · have hg : s.g h = some x0 := by simp only [St.g, h2]
                exact BR.ren (hb.heap.blk h x0 hg) (fun L hL => by
                  show newρ s.base seen ρ h = some L
                  unfold newρ; rw [if_pos h1]; exact hL) (fun y hy L hL => newρ_ren (h4 y hy) hL)
              · exact BR.lessρ hlow h4
              · exact BR.ren (hb.heap.blk h0 x0 h3) (fun L hL => by
                  show newρ s.base seen ρ h = some L
                  unfold newρ; rw [if_neg (by omega), h2]; exact hL) (fun y hy L hL => newρ_ren (h4 y hy) hL)
            apart := fun h h' x x' L L' b h1 h2 o1 o2 r1 r2 b1 b2 => by
              obtain ⟨x0, k1, k2, k3, k4⟩ := horig h x h1 o1
              obtain ⟨x0', k1', k2', k3', k4'⟩ := horig h' x' h2 o2
              rw [k3] at r1
              rw [k3'] at r2
              have := hb.heap.apart _ _ _ _ L L' b k1 k1' k2 k2' r1 r2 b1 b2
              by_cases c1 : h < s.base
              · by_cases c2 : h' < s.base
                · simpa only [orig, if_pos c1, if_pos c2] using this
                · have h5 := hge _ (List.mem_of_getElem? (k4' c2))
                  rw [← this] at h5
                  simp only [orig, if_pos c1] at h5
                  omega
              · by_cases c2 : h' < s.base
                · have h5 := hge _ (List.mem_of_getElem? (k4 c1))
                  rw [this] at h5
                  simp only [orig, if_pos c2] at h5
                  omega
                · have e1 := k4 c1
                  have e2 := k4' c2
                  rw [← this] at e2
                  have := nodup_inj hnd _ _ _ e1 e2
                  omega }
        env := fun i => by
          show VT P _ _ (look (envRen _ e) i) _
          rw [look_ren]
          exact (he i).ren (fun y hy L hL => newρ_ren (hin y (.inl (look_hs e i y hy))) hL)
        tail := fun β hβ h b h1 h2 h3 => by
          by_cases hd : b = .dead
          · subst hd; trivial
          · obtain ⟨L, hL⟩ := h3.locd hd
            have hL' : ltρ β E.ρ1 h = some L := hL
            have hβ' : β ≤ s.base := hβ
            have hlt : h < β := by
              unfold ltρ at hL'
              split at hL'
              · assumption
              · cases hL'
            have h1' : hlook (hpRen (renOf s.base seen) (outer s.base s.hp) ++ gathered s.g (renOf s.base seen) s.base seen) h = none := h1
            rw [hlook_app, hlook_ren, hlook_outer, if_pos (by omega)] at h1'
            have hn : hlook s.hp h = none := by
              cases hk : hlook s.hp h with
              | none => rfl
              | some x0 => rw [hk] at h1'; simp at h1'
            have hh := hb.tail β hβ' h b hn h2 h3
            have eρ : ltρ β (newρ s.base seen ρ) = ltρ β ρ := by
              funext x
              unfold ltρ newρ
              split
              · rw [if_pos (by omega)]
              · rfl
            rw [eρ]
            exact hh
        le := ⟨hb.le.S, hb.le.F, hb.le.hS, hb.le.hF, fun h L hL => by
          show newρ s.base seen ρ h = some L
          unfold newρ
          rw [if_pos (hb.dom h L hL)]
          exact hb.le.ρ h L hL, hb.le.ft⟩
        nd := by
          show nodup ((hpRen _ _ ++ gathered _ _ _ _).map (·.1)) = true
          rw [List.map_append, keys_ren]
          obtain ⟨g1, g2⟩ := keys_gathered (g := s.g) (r := renOf s.base seen) seen s.base
          refine nodup_app (nodup_outer hb.nd) g1 (fun a ha hb' => ?_)
          have := (keys_outer _ _ ha).1
          have := g2 a hb'
          omega
        start := hb.start
        dom := hb.dom
        base := Nat.le_add_right _ _
        below := hb.below
        bsize := hb.bsize }
  · cases hc
end
end Go.Fw
namespace Go.Fw
open Go Go.RowKit

/-- Types of a function: parameters, what it captures, results, temporaries. -/
structure FTy where
  ps : List Ty
  cps : List Ty
  rs : List Ty
  tys : List TTy
  n : Nat
  sgs : List (Nat × TypeId)
  deriving Inhabited
def resT : List Ty → TTy
  | [t] => .o t
  | l => .t l
def tysOf (F : FTy) (i : Nat) : TTy := F.tys.getD i (.o .no)
def ftOf (FT : Nat → FTy) (f : Nat) : List Ty × List Ty × List (Nat × TypeId) := ((FT f).ps, (FT f).cps, (FT f).sgs)

section
variable (P : Program) (FT : Nat → FTy)
def argsVT (C : Ctx) (ps : List Ty) (vs : List V) (args : List Value) : Prop :=
  vs.length = ps.length ∧ args.length = ps.length ∧ ∀ (i : Nat) (ty : Ty) (v : V) (x : Value), ps[i]? = some ty → vs[i]? = some v → args[i]? = some x → VT P C (.o ty) v x
/-- What a call that was walked gives. -/
structure CallRes (f : Nat) (E : Fr) (g : Nat → Option Blk) (n : Nat) (w : World) (ρ : Nat → Option Loc) (own : Nat → Prop) (v : V) (u : Hp) (n' : Nat) (x : Value) (w' : World) (ρ' : Nat → Option Loc) (own' : Nat → Prop) : Prop where
  heap : HRel P E (fun h => match ulast u h with | some b => some b | none => g h) (fun h => h < n') w'.heap ρ' own'
  le : (cx E w.heap own ρ).Le (cx E w'.heap own' ρ')
  below : Below E.B E.w0 w'
  bsize : E.B ≤ w'.heap.size
  val : VT P (cx E w'.heap own' ρ') (resT (FT f).rs) v x
  tail : ∀ β, β ≤ n → ∀ h b, ulast u h = none → g h = some b → BR P (cx E w.heap own (ltρ β ρ)) own h b → BR P (cx E w'.heap own' (ltρ β ρ')) own' h b
  next : n ≤ n'
  nd : nodup (u.map (·.1)) = true
def bodied (f : Nat) : Bool := match P.funcs[f]? with | some fn => fn.name != "runtime.NumGoroutine" && fn.body.isSome | none => false
/-- The function types that a function may be had under. -/
def sgsOk (f : Nat) : Bool := ((FT f).sgs.all fun x => match P.underlying x.2 with
  | some (.func pts rts _) => decide ((FT f).ps.drop x.1 = pts.toList.map (tyOf P)) && decide ((FT f).rs = rts.toList.map (tyOf P)) && decide (x.1 ≤ (FT f).ps.length)
  | _ => false) && ((FT f).sgs.isEmpty || bodied P f)
def CallSnd (rec : Task → Option Ans) : Prop := (∀ f, sgsOk P FT f = true) ∧ ∀ f vs g n v u n', rec (.call f vs g n) = some (.val v u n') → ∀ (E : Fr) (ρ : Nat → Option Loc) (own : Nat → Prop) (w : World) (args : Array Value), E.ft = ftOf FT → HRel P E g (fun h => h < n) w.heap ρ own → E.B ≤ w.heap.size → Below E.B E.w0 w →
  argsVT P (cx E w.heap own ρ) ((FT f).ps ++ (FT f).cps) vs args.toList → Calls P f args w (fun e w' => ∃ x, e = .returned x ∧ ∃ ρ' own', CallRes P FT f E g n w ρ own v u n' x w' ρ' own')
/-- The frame in which a function runs on data. -/
def dfr (S0 : Nat → Prop) (w : World) : Fr := { B := w.heap.size, S0 := S0, ft := ftOf FT, w0 := w, w1 := w, ρ1 := fun _ => none, own1 := fun _ => False }
/-- Results that are data, with rows of one's own. -/
def DataRes (f : Nat) (S0 : Nat → Prop) (w w' : World) (rs : List D) (x : Value) : Prop :=
  ∀ n0, ∃ ρ own, HRel P (dfr FT S0 w) (ulast (adopts n0 rs).2.1) (fun h => n0 ≤ h ∧ h < (adopts n0 rs).2.2) w'.heap ρ own ∧ VT P (cx (dfr FT S0 w) w'.heap own ρ) (resT (FT f).rs) (resV (adopts n0 rs).1) x
def DatSnd (rec : Task → Option Ans) : Prop := ∀ (st : Bool) f ds rs, rec (if st then .dats f ds else .data f ds) = some (.ds rs) → (FT f).cps = [] → ∀ (S0 : Nat → Prop) (w : World) (args : Array Value),
  argsVT P (cx (dfr FT S0 w) w.heap (fun _ => False) (fun _ => none)) (FT f).ps (ds.map (if st then ofD else argV)) args.toList → Calls P f args w (fun e w' => ∃ x, e = .returned x ∧ Below w.heap.size w w' ∧ DataRes P FT f S0 w w' rs x)
/-- The same, where what is handed back is data that stay. -/
def DatkSnd (rec : Task → Option Ans) : Prop := ∀ f ds rs, rec (.datk f ds) = some (.ds rs) → (FT f).cps = [] → ∀ (S0 : Nat → Prop) (w : World) (args : Array Value),
  argsVT P (cx (dfr FT S0 w) w.heap (fun _ => False) (fun _ => none)) (FT f).ps (ds.map ofD) args.toList → Calls P f args w (fun e w' => ∃ x, e = .returned x ∧ Below w.heap.size w w' ∧ VT P (cx (dfr FT S0 w) w'.heap (fun _ => False) (fun _ => none)) (resT (FT f).rs) (resV (rs.map ofD)) x)
def DataSnd (rec : Task → Option Ans) : Prop := DatSnd P FT rec ∧ DatkSnd P FT rec

/-! ### The check of functions -/
def argsOk (ft : Nat → List Ty × List Ty × List (Nat × TypeId)) (tys : Nat → TTy) : List Ty → List Operand → List Opd → Bool
  | [], [], [] => true
  | t :: ts, y :: ys, x :: xs => opdOk ft tys (.o t) y x && argsOk ft tys ts ys xs
  | _, _, _ => false
/-- The type of a function value. -/
def vty (ft : Nat → List Ty × List Ty × List (Nat × TypeId)) (tys : Nat → TTy) : Operand → Option TypeId
  | .tmp t => (match tys t with | .o (.fn t) => some t | _ => none)
  | .func f => ((ft f).2.2[0]?).map (·.2)
  | _ => none
def callsOk (tys : Nat → TTy) (op : Op) (i : KI) : Bool :=
  match op, i with
  | .call c, .cal d f xs _ => (match c.callee with | .value (.func f') => decide (f' = f) | _ => false) && argsOk (ftOf FT) tys (FT f).ps c.args.toList xs && (FT f).cps.isEmpty && decide (tys d = resT (FT f).rs) && bodied P f
  | .call c, .dat d f xs => (match c.callee with | .value (.func f') => decide (f' = f) | _ => false) && argsOk (ftOf FT) tys (FT f).ps c.args.toList xs && (FT f).cps.isEmpty && decide (tys d = resT (FT f).rs) && bodied P f
  | .call c, .daf d f xs => (match c.callee with | .value (.func f') => decide (f' = f) | _ => false) && argsOk (ftOf FT) tys (FT f).ps c.args.toList xs && (FT f).cps.isEmpty && decide (tys d = resT (FT f).rs) && bodied P f
  | .call c, .das d f xs => (match c.callee with | .value (.func f') => decide (f' = f) | _ => false) && argsOk (ftOf FT) tys (FT f).ps c.args.toList xs && (FT f).cps.isEmpty && decide (tys d = resT (FT f).rs) && bodied P f
  | .call c, .cad d f xs _ => (match c.callee with | .value (.func f') => decide (f' = f) | _ => false) && argsOk (ftOf FT) tys (FT f).ps c.args.toList xs && (FT f).cps.isEmpty && decide (tys d = resT (FT f).rs) && bodied P f
  | .call c, .cav d x xs => (match c.callee with
    | .value y => (match vty (ftOf FT) tys y with
      | some t => (match P.underlying t with
        | some (.func pts rts _) => opdOk (ftOf FT) tys (.o (.fn t)) y x && argsOk (ftOf FT) tys (pts.toList.map (tyOf P)) c.args.toList xs && decide (tys d = resT (rts.toList.map (tyOf P)))
        | _ => false)
      | none => false)
    | _ => false)
  | op, i => opOk P (ftOf FT) tys op i
def guardOk (tys : Nat → TTy) (ops : Array Oper) (g : Option (Nat × Bool)) (g' : Option (Nat × Bool)) : Bool :=
  match g, g' with
  | none, none => true
  | some (j, b), some (t, b') => decide ((ops[j]?).bind (·.dst) = some t) && decide (b = b') && decide (tys t = .o .b)
  | _, _ => false
def oneOk (F : FTy) (ops : Array Oper) (o : Oper) (gi : GI) : Bool :=
  guardOk (tysOf F) ops o.guard gi.g && decide (o.dst = gi.i.dst) && (match gi.i.dst with | some d => decide (d < F.n) | none => true) && callsOk P FT (tysOf F) o.op gi.i
end

/-! ### Running operations -/
/-- The memory behind what a call has done. -/
def gup (g : Nat → Option Blk) (u : Hp) (h : Nat) : Option Blk := match ulast u h with | some x => some x | none => g h
theorem after_gup (s : St) (d : Option Nat) (v : V) (u : Hp) (n : Nat) : (s.after d v u n).g = gup s.g u := funext fun h => after_g s d v u n h
/-- What one operation gives. -/
def opRes (rec : Task → Option Ans) (i : KI) (e : Env) (g : Nat → Option Blk) (n : Nat) : Option (V × Hp × Nat) :=
  match i with
  | .cal _ f xs nt => (match rec (.call f (xs.map (val e)) g n) with | some (.val v u n) => if clash e nt u then none else some (v, u, n) | _ => none)
  | .dat _ f xs => (match toDs g (xs.map (val e)) with
    | some ds => (match rec (.data f ds) with
      | some (.ds rs) => some (resV (adopts n rs).1, (adopts n rs).2.1, (adopts n rs).2.2)
      | _ => none)
    | none => none)
  | .daf _ f xs => (match freezes g (xs.map (val e)) with
    | some (ds, u0) => (match rec (.dats f ds) with
      | some (.ds rs) => some (resV (adopts n rs).1, u0 ++ (adopts n rs).2.1, (adopts n rs).2.2)
      | _ => none)
    | none => none)
  | .das _ f xs => (match freezes g (xs.map (val e)) with
    | some (ds, u0) => (match rec (.datk f ds) with
      | some (.ds rs) => some (resV (rs.map ofD), u0, n)
      | _ => none)
    | none => none)
  | .cad _ f xs nt => (match rec (.call f (xs.map (val e)) g n) with
    | some (.val v u n) => (match freeze (gup g u) v with
      | some (y, u0) => if clash e nt (u ++ u0) then none else some (ofD y, u ++ u0, n)
      | none => none)
    | _ => none)
  | .cav _ f xs => (match val e f with
    | .clo c first caps => (match rec (.call c (first ++ xs.map (val e) ++ caps) g n) with | some (.val v u n) => some (v, u, n) | _ => none)
    | _ => none)
  | i => eff i e g n
inductive Tr (rec : Task → Option Ans) : List GI → St → List (Option (V × Hp × Nat)) → St → Prop
  | nil {s : St} : Tr rec [] s [] s
  | skip {g : Option (Nat × Bool)} {i : KI} {r : List GI} {s s' : St} {ts : List (Option (V × Hp × Nat))} : wanted s.env g = some false → Tr rec r { s with env := putO s.env i.dst (.tup []) } ts s' → Tr rec (⟨g, i⟩ :: r) s (none :: ts) s'
  | go {g : Option (Nat × Bool)} {i : KI} {r : List GI} {s s' : St} {ts : List (Option (V × Hp × Nat))} {v : V} {u : Hp} {n : Nat} : wanted s.env g = some true → opRes rec i s.env s.g s.next = some (v, u, n) → Tr rec r (s.after i.dst v u n) ts s' → Tr rec (⟨g, i⟩ :: r) s (some (v, u, n) :: ts) s'
theorem step_ops {kp : Nat → Option KF} {rec : Task → Option Ans} {g : Option (Nat × Bool)} {i : KI} {r : List GI} {s : St} : step kp rec (.ops (⟨g, i⟩ :: r) s) = match wanted s.env g with
    | none => none
    | some false => rec (.ops r { s with env := putO s.env i.dst (.tup []) })
    | some true => match opRes rec i s.env s.g s.next with | some (v, u, n) => rec (.ops r (s.after i.dst v u n)) | none => none := by
  simp only [step]
  cases wanted s.env g with
  | none => rfl
  | some b =>
    cases b with
    | false => rfl
    | true =>
      cases i <;> simp only [opRes, KI.dst] <;> first | rfl | skip
      case cal d f xs nt => cases rec (.call f (xs.map (val s.env)) s.g s.next) with
        | none => rfl
        | some a => cases a <;> first | rfl | (simp only; split <;> rfl)
      case dat d f xs => cases toDs s.g (xs.map (val s.env)) with
        | none => rfl
        | some ds => simp only; cases rec (.data f ds) with
          | none => rfl
          | some a => cases a <;> rfl
      case daf d f xs => cases freezes s.g (xs.map (val s.env)) with
        | none => rfl
        | some du => obtain ⟨ds, u0⟩ := du
                     simp only
                     cases rec (.dats f ds) with
                     | none => rfl
                     | some a => cases a <;> rfl
      case das d f xs => cases freezes s.g (xs.map (val s.env)) with
        | none => rfl
        | some du => obtain ⟨ds, u0⟩ := du
                     simp only
                     cases rec (.datk f ds) with
                     | none => rfl
                     | some a => cases a <;> rfl
      case cad d f xs nt => cases rec (.call f (xs.map (val s.env)) s.g s.next) with
        | none => rfl
        | some a => cases a with
          | val v u n =>
            simp only
            rw [← after_gup s (some d) v u n]
            cases freeze (s.after (some d) v u n).g v with
            | none => rfl
            | some du => obtain ⟨y, u0⟩ := du
                         simp only
                         split <;> rfl
          | _ => rfl
      case cav d f xs => cases val s.env f <;> first | rfl | skip
                         simp only
                         rename_i c first caps
                         cases rec (.call c (first ++ xs.map (val s.env) ++ caps) s.g s.next) with
                         | none => rfl
                         | some a => cases a <;> rfl
end Go.Fw
