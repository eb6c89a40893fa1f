/- The law FlagBits, as the evaluator has it. No conditions. -/
import Derived.Test.YtjedomkpjidmbaaR3PFlagAll
set_option linter.unusedVariables false
set_option linter.unusedSimpArgs false
namespace Go.Cd
open Go Go.Fw
def nI (x : BitVec 32) : Int := ((x.toNat : Nat) : Int)
theorem and_nI (x y : BitVec 32) : bits .and .u32 (nI x) (nI y) = nI (x &&& y) := by
  simp only [nI]; rw [u32_and_key, ofInt_toNat, ofInt_toNat]
theorem or_nI (x y : BitVec 32) : bits .or .u32 (nI x) (nI y) = nI (x ||| y) := by
  simp only [nI]; rw [u32_or_key, ofInt_toNat, ofInt_toNat]
theorem andNot_nI (x y : BitVec 32) : bits .andNot .u32 (nI x) (nI y) = nI (x &&& ~~~y) := by
  simp only [nI]; rw [u32_andNot_key, ofInt_toNat, ofInt_toNat]
theorem nI_inj (x y : BitVec 32) : nI x = nI y ↔ x = y := by
  simp only [nI]
  constructor
  · intro h; apply BitVec.eq_of_toNat_eq; omega
  · intro h; rw [h]
theorem nI_zero (x : BitVec 32) : nI x = 0 ↔ x = 0#32 := nI_inj x 0#32
theorem of_u32 {a : Int} (h : InU32 a) : ∃ x, a = nI x := ⟨BitVec.ofInt 32 a, (u32_toInt h).symm⟩
theorem of_u32s : ∀ (l : List Int), (∀ n ∈ l, (Lit.int .u32 n).wf = true) → ∃ m : List (BitVec 32), l = m.map nI
  | [], _ => ⟨[], rfl⟩
  | a :: l, h => by
    obtain ⟨x, rfl⟩ := of_u32 (wf_u32 (h a List.mem_cons_self))
    obtain ⟨m, rfl⟩ := of_u32s l (fun n hn => h n (List.mem_cons_of_mem _ hn))
    exact ⟨x :: m, rfl⟩
/-- The waiters that the law puts together. -/
def mkW : Nat → List (BitVec 32) → List Waiter
  | _, [] => []
  | k, m :: r => ⟨((k : Int) + 1), nI m⟩ :: mkW (k + 1) r
theorem mkW_len : ∀ (k : Nat) (ms : List (BitVec 32)), (mkW k ms).length = ms.length
  | _, [] => rfl
  | k, m :: r => by simp [mkW, mkW_len (k + 1) r]
theorem mkW_snoc : ∀ (k : Nat) (ms : List (BitVec 32)) (m : BitVec 32), mkW k (ms ++ [m]) = mkW k ms ++ [⟨((k + ms.length : Nat) : Int) + 1, nI m⟩]
  | k, [], m => by simp [mkW]
  | k, a :: r, m => by
    simp only [List.cons_append, mkW]
    rw [mkW_snoc (k + 1) r m]
    have : k + 1 + r.length = k + (a :: r).length := by simp; omega
    rw [this]
/-- What the law asks of who is told. -/
def Good (masks : List (BitVec 32)) : BitVec 32 → List Waiter → BitVec 32 → Prop
  | all, [], res => all = res
  | all, t :: r, res => ∃ (i : Nat) (g m : BitVec 32), t = ⟨(i : Int) + 1, nI g⟩ ∧ masks[i]? = some m ∧ ¬ g = 0#32 ∧ g &&& ~~~m = 0#32 ∧ all &&& g = 0#32 ∧ Good masks (all ||| g) r res
theorem raise_good (masks : List (BitVec 32)) : ∀ (ms : List (BitVec 32)) (k : Nat), masks.drop k = ms → ∀ (b : BitVec 32) (l t : List Waiter),
    ∃ (f : BitVec 32) (l' t' : List Waiter), raiseF (mkW k ms) (nI b) l t = (nI f, l', t ++ t') ∧ f &&& ~~~b = 0#32 ∧ ∀ A, A &&& b = 0#32 → Good masks (A ||| f) t' (A ||| b)
  | [], k, _, b, l, t => ⟨b, l, [], by simp [mkW, raiseF], by ext i hi; simp, fun A _ => rfl⟩
  | m :: ms, k, h, b, l, t => by
    have hk : masks[k]? = some m := by
      have := congrArg List.head? h
      simpa [List.head?_drop] using this
    have hd : masks.drop (k + 1) = ms := by
      have := congrArg List.tail h
      simpa [List.tail_drop] using this
    simp only [mkW, raiseF, and_nI, andNot_nI]
    by_cases hg : b &&& m = 0#32
    · have : nI (b &&& m) = 0 := (nI_zero _).2 hg
      rw [if_pos this]
      exact raise_good masks ms (k + 1) hd b _ t
    · have : ¬ nI (b &&& m) = 0 := fun e => hg ((nI_zero _).1 e)
      rw [if_neg this]
      obtain ⟨f, l', t', e, e1, e2⟩ := raise_good masks ms (k + 1) hd (b &&& ~~~(b &&& m)) l (t ++ [⟨(k : Int) + 1, nI (b &&& m)⟩])
      have bit1 : ∀ i (hi : i < 32), f[i] = true → b[i] = true ∧ m[i] = false := by
        intro i hi hf
        have := congrArg (fun x : BitVec 32 => x.getLsbD i) e1
        simp [hi, hf] at this
        cases hb : b[i] <;> cases hm : m[i] <;> simp [hb, hm] at this ⊢
      refine ⟨f, l', ⟨(k : Int) + 1, nI (b &&& m)⟩ :: t', by rw [e]; simp, ?_, ?_⟩
      · ext i hi
        simp
        intro hf
        exact (bit1 i hi hf).1
      · intro A hA
        have bitA : ∀ i (hi : i < 32), A[i] = true → b[i] = false := by
          intro i hi ha
          have := congrArg (fun x : BitVec 32 => x.getLsbD i) hA
          simpa [hi, ha] using this
        refine ⟨k, b &&& m, m, rfl, hk, hg, ?_, ?_, ?_⟩
        · ext i hi; simp
        · ext i hi
          simp
          intro ha hb
          rcases ha with ha | ha
          · rw [bitA i hi ha] at hb; cases hb
          · exact (bit1 i hi ha).2
        · have c1 : A ||| f ||| (b &&& m) = A ||| (b &&& m) ||| f := by
            rw [BitVec.or_assoc, BitVec.or_comm f, ← BitVec.or_assoc]
          have c2 : A ||| b = A ||| (b &&& m) ||| (b &&& ~~~(b &&& m)) := by
            ext i hi; simp
            cases A[i] <;> cases b[i] <;> cases m[i] <;> rfl
          rw [c1, c2]
          apply e2
          ext i hi
          simp
          intro h hb
          rcases h with h | h
          · rw [bitA i hi h] at hb; cases hb
          · exact h
def fbSt (b more : Int) (nl : Bool) (masks : List (BitVec 32)) (ex : List (Nat × V)) (i : Int) : List Waiter → St
  | [] => { env := [(0, .asl nl (masks.map fun m => .int .u32 (nI m))), (1, .int .u32 b), (2, .int .u32 more), (7, .ptr 0 []), (8, .int .i64 i)] ++ ex,
                                hp := [(0, .box (.d (.agg [.int .u32 b, .sl true []])))], tl := fun _ => none, base := 0, next := 1 }
  | a :: l => { env := [(0, .asl nl (masks.map fun m => .int .u32 (nI m))), (1, .int .u32 b), (2, .int .u32 more), (7, .ptr 0 []), (8, .int .i64 i)] ++ ex,
                                hp := [(0, .box (.agg [.int .u32 b, .sl false 1 0 (l.length + 1)])), (1, .row true (a.d :: l.map Waiter.d))], tl := fun _ => none, base := 0, next := 2 }
theorem fb_loop0 (b more : Int) (nl : Bool) (masks : List (BitVec 32)) (hf : masks.length ≤ 1000) : ∀ (rest pre : List (BitVec 32)), masks = pre ++ rest → ∀ (i : Int), i = pre.length →
    run kp (.loop [0, 1, 2, 7, 8] k_law13_FlagBits_L0 (fbSt b more nl masks [] i (mkW 0 pre))) = some (.out (.ext 0) (fbSt b more nl masks [(24, .bool false)] masks.length (mkW 0 masks)))
  | [], pre, h, i, hi => by
    simp at h
    subst hi
    rw [run_round, h]
    have hl := mkW_len 0 pre
    cases hw : mkW 0 pre <;> simp [c_law13_FlagBits_L0, k_law13_FlagBits_L0b, fbSt]
  | w :: rest, pre, h, i, hi => by
    have hli : i < masks.length := by rw [h, hi]; simp; omega
    have h0 : 0 ≤ i := by omega
    have hget0 : masks[i.toNat]? = some w := by rw [h, hi]; simp
    have hget : ∀ hh : i.toNat < masks.length, masks[i.toNat] = w := fun hh => by rw [List.getElem?_eq_getElem hh] at hget0; injection hget0
    have hw : IntKind.i64.wrap (i + 1) = i + 1 := wrap_i64 (by omega) (by omega)
    have ih := fb_loop0 b more nl masks hf rest (pre ++ [w]) (by simp [h]) (i + 1) (by simp [hi])
    rw [← ih, run_round, mkW_snoc]
    have hp : (mkW 0 pre).length ≤ 1000 := by rw [mkW_len]; omega
    have hi' : ((0 + pre.length : Nat) : Int) = i := by omega
    rw [hi']
    cases hk : mkW 0 pre with
    | nil => simp [c_law13_FlagBits_L0, k_law13_FlagBits_L0b, h0, hli, hget, Waiter.d, hw, fbSt]
    | cons a l =>
      rw [hk] at hp
      simp only [List.length_cons] at hp
      have : l.length ≤ 1073741822 := by omega
      simp [c_law13_FlagBits_L0, k_law13_FlagBits_L0b, h0, hli, hget, Waiter.d, hw, fbSt, this]
def fb1St (b more f : Int) (nl : Bool) (masks : List (BitVec 32)) (all : BitVec 32) (ex : List (Nat × V)) (i : Int) : List Waiter → List Waiter → St
  | [], [] => { env := [(0, .asl nl (masks.map fun m => .int .u32 (nI m))), (1, .int .u32 b), (2, .int .u32 more), (9, .ptr 0 []), (10, .d (.sl true [])), (11, .int .u32 (nI all)), (12, .int .i64 i)] ++ ex,
                                hp := [(0, .box (.d (.agg [.int .u32 f, .sl true []])))], tl := fun _ => none, base := 0, next := 1 }
  | [], c :: t => { env := [(0, .asl nl (masks.map fun m => .int .u32 (nI m))), (1, .int .u32 b), (2, .int .u32 more), (9, .ptr 0 []), (10, .sl false 1 0 (t.length + 1)), (11, .int .u32 (nI all)), (12, .int .i64 i)] ++ ex,
                                hp := [(0, .box (.d (.agg [.int .u32 f, .sl true []]))), (1, .row true (c.d :: t.map Waiter.d))], tl := fun _ => none, base := 0, next := 2 }
  | a :: l, [] => { env := [(0, .asl nl (masks.map fun m => .int .u32 (nI m))), (1, .int .u32 b), (2, .int .u32 more), (9, .ptr 0 []), (10, .d (.sl true [])), (11, .int .u32 (nI all)), (12, .int .i64 i)] ++ ex,
                                hp := [(0, .box (.agg [.int .u32 f, .sl false 1 0 (l.length + 1)])), (1, .row true (a.d :: l.map Waiter.d))], tl := fun _ => none, base := 0, next := 2 }
  | a :: l, c :: t => { env := [(0, .asl nl (masks.map fun m => .int .u32 (nI m))), (1, .int .u32 b), (2, .int .u32 more), (9, .ptr 0 []), (10, .sl false 2 0 (t.length + 1)), (11, .int .u32 (nI all)), (12, .int .i64 i)] ++ ex,
                                hp := [(0, .box (.agg [.int .u32 f, .sl false 1 0 (l.length + 1)])), (1, .row true (a.d :: l.map Waiter.d)), (2, .row true (c.d :: t.map Waiter.d))], tl := fun _ => none, base := 0, next := 3 }
set_option maxHeartbeats 4000000 in
theorem fb_loop1 (b more f : Int) (nl : Bool) (masks : List (BitVec 32)) (hm : masks.length ≤ 1000) (l' t' : List Waiter) (hf : t'.length ≤ 1000) (res : BitVec 32) : ∀ (rest pre : List Waiter), t' = pre ++ rest → ∀ (i : Int), i = pre.length → ∀ (all : BitVec 32), Good masks all rest res →
    run kp (.loop [0, 1, 2, 9, 10, 11, 12] k_law13_FlagBits_L1 (fb1St b more f nl masks all [] i l' t')) = some (.out (.ext 2) (fb1St b more f nl masks res [(50, .bool false)] t'.length l' t'))
  | [], pre, h, i, hi, all, hg => by
    simp at h
    subst hi
    simp only [Good] at hg
    subst hg
    rw [run_round, h]
    cases l' <;> cases pre <;> simp [c_law13_FlagBits_L1, k_law13_FlagBits_L1b, fb1St]
  | w :: rest, pre, h, i, hi, all, hg => by
    obtain ⟨j, g, m, rfl, hj, g1, g2, g3, hg⟩ := hg
    have hli : i < t'.length := by rw [h, hi]; simp; omega
    have h0 : 0 ≤ i := by omega
    have hget0 : (t'.map Waiter.d)[i.toNat]? = some (Waiter.d ⟨(j : Int) + 1, nI g⟩) := by rw [h, hi]; simp
    have hw : IntKind.i64.wrap (i + 1) = i + 1 := wrap_i64 (by omega) (by omega)
    have ih := fb_loop1 b more f nl masks hm l' t' hf res rest (pre ++ [⟨(j : Int) + 1, nI g⟩]) (by simp [h]) (i + 1) (by simp [hi]) _ hg
    have hjl : j < masks.length := by
      rcases Nat.lt_or_ge j masks.length with k | k
      · exact k
      · rw [List.getElem?_eq_none k] at hj; cases hj
    have w1 : IntKind.i64.wrap (j : Int) = j := wrap_i64 (by omega) (by omega)
    have n1 : ¬ nI g = 0 := fun e => g1 ((nI_zero _).1 e)
    have n2 : nI (g &&& ~~~m) = 0 := (nI_zero _).2 g2
    have n3 : nI (all &&& g) = 0 := (nI_zero _).2 g3
    have c1 : ¬ (j : Int) + 1 < 1 := by omega
    have c2 : ¬ (masks.length : Int) < (j : Int) + 1 := by omega
    have c3 : (j : Int) < masks.length := by omega
    rw [← ih, run_round]
    cases t' with
    | nil => simp at hli; omega
    | cons c t =>
      simp only [List.map_cons] at hget0
      have hget : ∀ hh : i.toNat < (Waiter.d c :: t.map Waiter.d).length, (Waiter.d c :: t.map Waiter.d)[i.toNat] = Waiter.d ⟨(j : Int) + 1, nI g⟩ := fun hh => by rw [List.getElem?_eq_getElem hh] at hget0; injection hget0
      simp only [Waiter.d] at hget
      have hli' : i.toNat < t.length + 1 := by simp only [List.length_cons] at hli; omega
      have hli2 : i < (t.length : Int) + 1 := by simp only [List.length_cons] at hli; omega
      cases l' with
      | nil =>
        simp [c_law13_FlagBits_L1, k_law13_FlagBits_L1b, fb1St, h0, hli, hli', hli2, hget, hw, w1, n1, n2, n3, c1, c2, c3, and_nI, andNot_nI, or_nI, Waiter.d, hj]
      | cons a l =>
        simp [c_law13_FlagBits_L1, k_law13_FlagBits_L1b, fb1St, h0, hli, hli', hli2, hget, hw, w1, n1, n2, n3, c1, c2, c3, and_nI, andNot_nI, or_nI, Waiter.d, hj]
set_option maxHeartbeats 4000000 in
theorem flag_bits (masks : List (BitVec 32)) (nl : Bool) (hf : masks.length ≤ 4) (b more : BitVec 32) : run kp (.data f_law13_FlagBits [.sl nl (masks.map fun m => .int .u32 (nI m)), .int .u32 (nI b), .int .u32 (nI more)]) = some (.ds [.bool true]) := by
  rw [run_data, run_call, kp_law13_FlagBits]
  have hf2 : ¬ (4 : Int) < masks.length := by omega
  have l0 := fb_loop0 (nI b) (nI more) nl masks (by omega) masks [] rfl 0 rfl
  obtain ⟨f, l', t', e, e1, e2⟩ := raise_good masks masks 0 rfl (b ||| more) [] []
  have hl := raiseF_len (mkW 0 masks) (nI (b ||| more)) [] []
  rw [e] at hl
  simp only [List.nil_append, List.length_nil, mkW_len] at hl e
  have e2 := e2 0#32 (by simp)
  simp only [BitVec.zero_or] at e2
  have l1 := fb_loop1 (nI b) (nI more) (nI f) nl masks (by omega) l' t' (by omega) _ t' [] rfl 0 rfl f e2
  have r1 := fun nw => flag_Raise ⟨nI b, nw, mkW 0 masks⟩ (by simp [mkW_len]; omega) (nI more)
  simp only [or_nI, e, Flag.d] at r1
  have w1 : IntKind.i64.wrap ((t'.length : Int) + l'.length) = masks.length := by
    rw [wrap_i64 (by omega) (by omega)]; omega
  cases hw : mkW 0 masks with
  | nil =>
    have hm0 : masks = [] := by
      have := mkW_len 0 masks
      rw [hw] at this
      exact List.length_eq_zero_iff.1 (by simpa using this.symm)
    subst hm0
    simp at hl
    obtain ⟨rfl, rfl⟩ := hl
    simp [mkW, fbSt] at l0
    rw [hw] at r1
    have r1 := r1 true
    simp only [List.map_nil, rowD] at r1
    simp [fb1St] at l1
    simp [k_law13_FlagBits, flag_begun, hf2, l0, r1, l1, or_nI]
    decide
  | cons a l =>
    simp [mkW, fbSt, hw] at l0
    rw [hw] at r1
    have r1 := r1 false
    simp only [List.map_cons] at r1
    cases l' with
    | nil =>
      cases t' with
      | nil =>
        simp only [rowD] at r1
        simp [fb1St] at l1 w1
        simp [k_law13_FlagBits, flag_begun, hf2, l0, r1, l1, or_nI, w1]
      | cons c t =>
        simp only [rowD] at r1
        simp [fb1St] at l1 w1
        simp [k_law13_FlagBits, flag_begun, hf2, l0, r1, l1, or_nI, w1]
    | cons d l' =>
      cases t' with
      | nil =>
        simp only [rowD] at r1
        simp [fb1St] at l1 w1
        simp [k_law13_FlagBits, flag_begun, hf2, l0, r1, l1, or_nI, w1]
      | cons c t =>
        simp only [rowD] at r1
        simp [fb1St] at l1 w1
        simp [k_law13_FlagBits, flag_begun, hf2, l0, r1, l1, or_nI, w1]
theorem law_FlagBits (xs : List D) (h : Sh.hasL [.sl (.i .u32), .i .u32, .i .u32] xs) : run kp (.data f_law13_FlagBits xs) = some (.ds [.bool true]) := by
  obtain ⟨x1, _, rfl, h1, h⟩ := hasL_cons h
  obtain ⟨x2, _, rfl, h2, h⟩ := hasL_cons h
  obtain ⟨x3, _, rfl, h3, h⟩ := hasL_cons h
  obtain rfl := hasL_nil h
  obtain ⟨nl, l, rfl, _, hlen, hw⟩ := has_nums h1
  obtain ⟨masks, rfl⟩ := of_u32s l hw
  obtain ⟨b, rfl, k2⟩ := has_int h2
  obtain ⟨m, rfl, k3⟩ := has_int h3
  obtain ⟨b, rfl⟩ := of_u32 (wf_u32 k2)
  obtain ⟨m, rfl⟩ := of_u32 (wf_u32 k3)
  rw [List.map_map]
  by_cases hf : masks.length ≤ 4
  · exact flag_bits masks nl hf b m
  · rw [run_data, run_call, kp_law13_FlagBits]
    have hf2 : (4 : Int) < masks.length := by omega
    simp [k_law13_FlagBits, flag_begun, hf2]
end Go.Cd
