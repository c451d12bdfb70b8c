import PyProof.Rows.All
import Wide.All
import OpenK.AllK
import Wide.FinOn
import PySem.Challenge.RW_k20_0014
set_option Elab.async false
namespace Mine
open PySem

/-- what a slice picks, as plain data -/
def pickD {α : Type} (ds : List α) (lo hi st : Option Int) : List α :=
  (sliceRange (sliceBounds lo hi st ds.length).1 (sliceBounds lo hi st ds.length).2.1 (sliceBounds lo hi st ds.length).2.2).filterMap (ds[·]?)

theorem filterMap_at {α : Type} (g : Nat → α) (N : Nat) : ∀ (l : List Nat), (∀ k ∈ l, k < N) → l.filterMap (((List.range N).map g)[·]?) = l.map g
  | [], _ => rfl
  | k :: l, h => by
    have hk : k < N := h k (.head _)
    have e : ((List.range N).map g)[k]? = some (g k) := by simp [hk]
    rw [List.filterMap_cons, e, List.map_cons, filterMap_at g N l fun x hx => h x (.tail _ hx)]

theorem sliceRange_step (j K c : Nat) (stop : Int) (hK : 0 < K) (hc : (if ((j : Int)) < stop then (stop - j + K - 1) / K else 0) = (c : Int)) :
    sliceRange j stop K = (List.range c).map fun i => i * K + j := by
  unfold sliceRange
  have hK' : (K : Int) > 0 := by omega
  simp only [hK', if_true]
  rw [hc]
  simp only [Int.toNat_natCast]
  refine List.map_congr_left fun i _ => ?_
  have : ((j : Int) + (K : Int) * (i : Int)) = ((i * K + j : Nat) : Int) := by rw [Int.natCast_add, Int.natCast_mul, Int.mul_comm, Int.add_comm]
  rw [this, Int.toNat_natCast]

def clipD (n : Nat) (i : Int) : Int := max 0 (min (if i < 0 then i + n else i) n)
def loD (n : Nat) : Option Int → Int
  | none => 0
  | some i => clipD n i
def hiD (n : Nat) : Option Int → Int
  | none => n
  | some i => clipD n i
theorem clipD_nat (n k : Nat) (h : k ≤ n) : clipD n (k : Int) = k := by unfold clipD; rw [if_neg (by omega)]; omega

theorem bounds_pos {lo hi : Option Int} {K : Nat} (hK : 0 < K) {n : Nat} {a b : Int} (hlo : loD n lo = a) (hhi : hiD n hi = b) :
    sliceBounds lo hi (some K) n = (a, b, (K : Int)) := by
  have hK' : (K : Int) > 0 := by omega
  subst hlo; subst hhi
  unfold sliceBounds
  simp only [Option.getD_some, hK', if_true]
  cases lo <;> cases hi <;> rfl

theorem bounds_one {lo hi : Option Int} {n : Nat} {a b : Int} (hlo : loD n lo = a) (hhi : hiD n hi = b) :
    sliceBounds lo hi none n = (a, b, 1) := by
  subst hlo; subst hhi
  unfold sliceBounds
  simp only [Option.getD_none, show (1 : Int) > 0 by decide, if_true]
  cases lo <;> cases hi <;> rfl

theorem count_step (j K R : Nat) (hj : j < K) : ((R * K : Nat) - (j : Int) + K - 1) / (K : Int) = (R : Int) := by
  have hK : (0 : Int) < K := by omega
  refine Int.le_antisymm ?_ ?_
  · refine Int.lt_add_one_iff.mp (Int.ediv_lt_of_lt_mul hK ?_)
    rw [Int.natCast_mul, Int.add_mul, Int.one_mul]; omega
  · refine Int.le_ediv_of_mul_le hK ?_
    rw [Int.natCast_mul]; omega

/-- flat[j : R*K : K] -/
theorem pick_step {α : Type} (g : Nat → α) (R K N j : Nat) (hj : j < K) (hN : R * K ≤ N) (hi : Option Int) (hhi : hiD N hi = ((R * K : Nat) : Int)) :
    pickD ((List.range N).map g) (some (j : Int)) hi (some (K : Int)) = (List.range R).map fun i => g (i * K + j) := by
  unfold pickD
  by_cases hR : R = 0
  · subst hR
    have ha : loD N (some (j : Int)) = ((min j N : Nat) : Int) := by show clipD N (j : Int) = _; unfold clipD; rw [if_neg (by omega)]; omega
    rw [List.length_map, List.length_range, bounds_pos (by omega) ha hhi]
    simp only [Nat.zero_mul]
    rw [sliceRange_step (min j N) K 0 _ (by omega) (by rw [if_neg (by omega)]; rfl)]
    rfl
  · have hle : K ≤ R * K := Nat.le_mul_of_pos_left K (by omega)
    have ha : loD N (some (j : Int)) = (j : Int) := clipD_nat N j (by omega)
    rw [List.length_map, List.length_range, bounds_pos (by omega) ha hhi]
    simp only
    rw [sliceRange_step j K R _ (by omega) (by rw [if_pos (by omega)]; exact count_step j K R hj), filterMap_at]
    · rw [List.map_map]; rfl
    · intro k hk
      obtain ⟨i, hi, rfl⟩ := List.mem_map.mp hk
      have hi' := List.mem_range.mp hi
      have : (i + 1) * K ≤ R * K := Nat.mul_le_mul_right K hi'
      rw [Nat.add_mul, Nat.one_mul] at this
      omega

/-- flat[a : a + K] -/
theorem pick_run' {α : Type} (g : Nat → α) (N a b K : Nat) (hb : a + K = b) (hN : b ≤ N) (lo hi : Option Int)
    (hlo : loD N lo = (a : Int)) (hhi : hiD N hi = (b : Int)) :
    pickD ((List.range N).map g) lo hi none = (List.range K).map fun j => g (a + j) := by
  unfold pickD
  rw [List.length_map, List.length_range, bounds_one hlo hhi]
  simp only
  rw [sliceRange_one, show b - a = K by omega, filterMap_at]
  · rw [List.map_map]; rfl
  · intro k hk
    obtain ⟨i, hi, rfl⟩ := List.mem_map.mp hk
    have hi' := List.mem_range.mp hi
    omega

theorem pick_all' {α : Type} (ds : List α) : pickD ds none none none = ds := by
  unfold pickD
  rw [bounds_one (a := ((0 : Nat) : Int)) (b := ds.length) rfl rfl]
  simp only
  rw [sliceRange_one, Nat.sub_zero]
  have : ((List.range ds.length).map (0 + ·)).filterMap (ds.toArray[·]?) = (ds.toArray.toList.drop 0).take ds.length := pick_run ds.toArray 0 ds.length
  simpa using this
end Mine

set_option maxRecDepth 100000
namespace Mine
open PySem PySem.Spec PySem.Calls PyProof.Rows PyProof.Rows.LCg

section
variable {prog : Program} {w : World} {A : Around} {E : Value → Shared → Prop} {s : Shared} {h₀ : Heap} {L : Addr} {m : Str → Option Value} {env : Env}

theorem restInv {elt : Expr} {x : Str} {scope : Scope} {cl : List (Str × Addr)} {S : List (Addr × Obj) → Prop} {P : Nat → Value → Prop} {Fin : List Value → List (Addr × Obj) → Prop} {n : Nat}
    (Inv : Nat → List Value → List (Addr × Obj) → Prop)
    (fin : ∀ ys news, Inv n ys news → Fin ys news)
    (step : ∀ i ys news, i < n → Inv i ys news → ∀ v I oI C oC D m₂ h tk (E' : Value → Shared → Prop), P i v → NsObj oC m₂ → m₂ x = some v → Fr h₀ L h m → News h₀ L h ((I, oI) :: (C, oC) :: (D, lst ys) :: news) → Off3 I C D news → ((@Ne Nat I C) ∧ (@Ne Nat I D) ∧ (@Ne Nat C D)) →
      wpAny (model prog w) A (eval elt (compEnvC scope cl C env)) (CompEnd h₀ L m { s with heap := h, toks := tk } I oI C oC D (lst ys) S (fun y news' => Inv (i + 1) (ys ++ [y]) news')) E' { s with heap := h, toks := tk }) :
    ∀ k i ys news, k + i = n → Inv i ys news → CompRest prog w A h₀ L m env elt x scope cl s S P Fin k i ys news := by
  intro k
  induction k with
  | zero =>
    intro i ys news e hi
    have e' : i = n := by omega
    subst e'
    exact fin ys news hi
  | succ k ih =>
    intro i ys news e hi v I oI C oC D m₂ h tk E' hP hC hx F N off ne
    refine wpAny_mono (step i ys news (by omega) hi v I oI C oC D m₂ h tk E' hP hC hx F N off ne) (fun y s₂ hy => ?_) fun _ _ x => x
    obtain ⟨h', tk', news', e', F', N', off', hS, r⟩ := hy
    exact ⟨h', tk', news', e', F', N', off', hS, ih (i + 1) _ _ (by omega) r⟩

theorem newEnv_cells {M : Model} {scope : Scope} {globals : Addr} {cl : List (Str × Addr)} {qual : Str} {around : Env} {Q : Env → Shared → Prop}
    (hQ : Q { scope := scope, locals := s.heap.objs.size, globals := globals, cells := cellsFrom (s.heap.objs.size + 1) scope.names cl, qual := qual, func := none, code := around.code, frame := around.frame, builtins := around.builtins }
      { s with heap := pushCells (s.heap.push { cls := .type "dict", data := .dict #[] }) scope.names }) :
    wpAny M A (newFunctionEnv scope globals cl [] qual none .none (some around)) Q E s := by
  simp only [newFunctionEnv, Option.isSome_some, if_true]
  refine wpAny_bind (wpAny_alloc ?_)
  refine wpAny_bind (wpAny_layCells _ (fun name kind cells => by cases hkc : kind == NameKind.cell <;> simp) _ _ _ _ ?_)
  rw [show ({ s with heap := s.heap.push { cls := .type "dict", data := .dict #[] } } : Shared).heap.objs.size = s.heap.objs.size + 1 from Heap.size_push ..]
  refine wpAny_bind ?_
  rw [List.forIn_nil]
  exact wpAny_pure (wpAny_pure hQ)

theorem lookup_relabel_cell {env : Env} : ∀ {names : List (Str × NameKind)} {x : Str}, names.lookup x = some .cell →
    (names.map fun (n, k) => if (k == NameKind.free && env.scope.kind == .function && env.kindOf n == some .cell) then (n, NameKind.cell) else (n, k)).lookup x = some .cell
  | [], _, h => by simp at h
  | (n, k) :: r, x, h => by
    rw [List.lookup_cons] at h
    rw [List.map_cons]
    cases hx : x == n with
    | true =>
      rw [hx] at h
      have hk : k = .cell := Option.some.inj h
      subst hk
      simp only [show ((NameKind.cell == NameKind.free) = false) from rfl, Bool.false_and, Bool.false_eq_true, if_false]
      rw [List.lookup_cons, hx]
    | false =>
      rw [hx] at h
      have ih := lookup_relabel_cell (env := env) h
      dsimp only
      by_cases hc : (k == NameKind.free && env.scope.kind == .function && env.kindOf n == some .cell) = true
      · rw [if_pos hc, List.lookup_cons, hx]; exact ih
      · rw [if_neg hc, List.lookup_cons, hx]; exact ih

def Off4 (I C c D : Addr) (nw : List (Addr × Obj)) : Prop := ∀ p ∈ nw, p.1 ≠ I ∧ p.1 ≠ C ∧ p.1 ≠ c ∧ p.1 ≠ D

theorem nn {a b : Nat} (h : a ≠ b) : a ≠ b := h
theorem block_cell {elt iter : Expr} {x : Str} {px : Pos} {scope : Scope} {cl : List (Str × Addr)} {pos : Pos} {s₂ : Shared} {I : Addr} {a : Int} {n : Nat} {news : List (Addr × Obj)}
    {RR : Value → Addr → Result → Shared → Prop} (Inv : Nat → List Value → List (Addr × Obj) → Prop)
    (hh : A.handled = none) (hsz : n ≤ sizeLine) (hkind : scope.kind = .function) (hx : scope.names.lookup x = some .cell)
    (hcells : ∀ k, cellsFrom k scope.names cl = (x, k) :: cl) (hpush : ∀ h, pushCells h scope.names = h.push { cls := .type "cell", data := .cell none })
    (hst : IsRangeIter s₂.heap I a n 1)
    (F : Fr h₀ L s₂.heap m) (N : News h₀ L s₂.heap news) (hIL : L ≠ I) (hI₀ : h₀.get? I = none) (off : ∀ p ∈ news, p.1 ≠ I) (h0 : Inv 0 [] news)
    (step : ∀ i ys nw t oI C oC c oc D h tk (E' : Value → Shared → Prop), i < n → Inv i ys nw → oc.data = .cell (some (.int (a + (i : Int)) t)) → Fr h₀ L h m → News h₀ L h ((I, oI) :: (C, oC) :: (c, oc) :: (D, lst ys) :: nw) → Off4 I C c D nw →
      ((@Ne Nat I C) ∧ (@Ne Nat I c) ∧ (@Ne Nat I D) ∧ (@Ne Nat C c) ∧ (@Ne Nat C D) ∧ (@Ne Nat c D)) →
      wpAny (model prog w) A (eval elt (compEnvC scope ((x, c) :: cl) C env)) (fun y s₄ => ∃ h' tk' nw', s₄ = { s₂ with heap := h', toks := tk' } ∧ Fr h₀ L h' m ∧ News h₀ L h' ((I, oI) :: (C, oC) :: (c, oc) :: (D, lst ys) :: nw') ∧ Off4 I C c D nw' ∧ Inv (i + 1) (ys ++ [y]) nw') E' { s₂ with heap := h, toks := tk })
    (hRR : ∀ D C h tk m' ys nw, Fr h₀ L h m → News h₀ L h ((D, lst ys) :: nw) → Off1 D nw → h.Ns C m' → h₀.get? C = none → C ≠ L → C ≠ D → (∀ p ∈ nw, p.1 ≠ C) → Inv n ys nw → RR (.ref D) C (.ok .next) { s₂ with heap := h, toks := tk }) :
    wpAny (model prog w) A (newList []) (fun acc s₃ => wpAny (model prog w) A (newFunctionEnv scope env.globals cl [] env.qual none .none (some env)) (fun cenv s₄ =>
      codeAny (model prog w) A (.compStart (.ListComp elt [⟨.Name x px, iter, [], 0⟩] scope pos) 0 (.ref I) acc { cenv with scope := relabel scope env }) (RR acc cenv.locals) s₄) E s₃) E s₂ := by
  refine wpAny_newObj_type (newEnv_cells ?_)
  dsimp only
  rw [hcells, hpush]
  generalize hH1 : s₂.heap.push { cls := .type "list", dict := none, data := .seq ([] : List Value).toArray } = H1
  have sH1 : H1.objs.size = s₂.heap.objs.size + 1 := by rw [← hH1, Heap.size_push]
  generalize hH2 : H1.push { cls := .type "dict", data := .dict #[] } = H2
  have sH2 : H2.objs.size = s₂.heap.objs.size + 2 := by rw [← hH2, Heap.size_push, sH1]
  generalize hH3 : H2.push { cls := .type "cell", data := .cell none } = H3
  rw [sH1]
  generalize hD : s₂.heap.objs.size = D at *
  have up : ∀ b o, s₂.heap.get? b = some o → H3.get? b = some o := fun b o e => by
    rw [← hH3, ← hH2, ← hH1]; exact Heap.get?_push_of_some _ (Heap.get?_push_of_some _ (Heap.get?_push_of_some _ e))
  have gD : H3.get? D = some (lst []) := by
    rw [← hH3, ← hH2]; refine Heap.get?_push_of_some _ (Heap.get?_push_of_some _ ?_)
    rw [← hH1, ← hD]; exact Heap.get?_push_size _ rfl
  have gC : H3.get? (D + 1) = some { cls := .type "dict", data := .dict #[] } := by
    rw [← hH3]; refine Heap.get?_push_of_some _ ?_
    rw [← hH2, ← sH1]; exact Heap.get?_push_size _ rfl
  have gc : H3.get? (D + 1 + 1) = some { cls := .type "cell", data := .cell none } := by
    rw [← hH3, show D + 1 + 1 = H2.objs.size by rw [sH2]]; exact Heap.get?_push_size _ rfl
  have fresh₀ : ∀ k, D ≤ k → h₀.get? k = none := fun k hk => by
    cases e : h₀.get? k with
    | none => rfl
    | some o' => have := Heap.lt_size (F.keep k o' e); rw [hD] at this; exact absurd this (Nat.not_lt.mpr hk)
  have hLD : @LT.lt Nat _ L D := hD ▸ F.ns.lt
  have hID : @LT.lt Nat _ I D := by
    have e : s₂.heap.get? I = some _ := hst
    have := Heap.lt_size e
    rwa [hD] at this
  have offD : ∀ p ∈ news, @LT.lt Nat _ p.1 D := fun p hp => hD ▸ Heap.lt_size (N p hp).1
  have NsC : NsObj ({ cls := .type "dict", data := .dict #[] } : Obj) (fun _ => none) := ⟨#[], _, rfl, fun e he => by simp at he, fun _ => rfl⟩
  have loop : codeAny (model prog w) A (.compLoop (.ListComp elt [⟨.Name x px, iter, [], 0⟩] scope pos) 0 (.ref I) (.ref D) (compEnvC scope ((x, D + 1 + 1) :: cl) (D + 1) env))
        (RR (.ref D) (D + 1)) { s₂ with heap := H3 } := by
    refine codeAny_compLoop_tests
      (fun k s' => ∃ h' tk i ys nw oC oc vc m', s' = { s₂ with heap := h', toks := tk } ∧ i ≤ n ∧ k = n + 1 - i ∧ ys.length = i ∧ IsRangeIter h' I (a + (i : Nat) * 1) ((n : Int) - (i : Nat)) 1 ∧ Fr h₀ L h' m ∧
        oc.data = .cell vc ∧ NsObj oC m' ∧ News h₀ L h' ((D + 1, oC) :: (D + 1 + 1, oc) :: (D, lst ys) :: nw) ∧ Off4 I (D + 1) (D + 1 + 1) D nw ∧ Inv i ys nw) ?_ (n + 1)
      ⟨H3, _, 0, [], news, { cls := .type "dict", data := .dict #[] }, { cls := .type "cell", data := .cell none }, none, _, rfl, Nat.zero_le _, rfl, rfl, ?_, F.keeps up, rfl, NsC, fun p hp => ?_, fun p hp => ?_, h0⟩
    · rintro k s' ⟨h', tk, i, ys, nw, oC, oc, vc, m', rfl, hi, rfl, hyl, hit, F', hoc, hoC, N', off', hInv⟩
      have W := range_walks (prog := prog) (w := w) (A := A) (I := I) hh a n
      have NC := N' (D + 1, oC) List.mem_cons_self
      have Nc := N' (D + 1 + 1, oc) (List.mem_cons_of_mem _ List.mem_cons_self)
      have ND := N' (D, lst ys) (List.mem_cons_of_mem _ (List.mem_cons_of_mem _ List.mem_cons_self))
      have Nn : News h₀ L h' nw := fun p hp => N' p (List.mem_cons_of_mem _ (List.mem_cons_of_mem _ (List.mem_cons_of_mem _ hp)))
      by_cases hlt : i < n
      · refine W.item i _ _ _ hlt hit fun v h₂ tk₂ hPv hst₂ hk₂ => ?_
        obtain ⟨t, rfl⟩ := hPv
        have kp : ∀ b o, b ≠ I → h'.get? b = some o → h₂.get? b = some o := fun b o hb e => hk₂ b o (by simpa using hb) e
        refine wpAny_assign_Name (wpAny_storeName_cell (by simp [compEnvC, relabel, hkind]) (lookup_relabel_cell hx) (c := D + 1 + 1) (by simp [compEnvC]) (v₀ := vc) ⟨oc, kp _ _ (nn (by omega)) Nc.1, hoc⟩ fun h₃ hc₃ hs₃ => ?_)
        refine wpAny_tests_nil ?_
        simp only [if_true]
        obtain ⟨oc', hoc', hdc'⟩ := hc₃
        have eI : h₂.get? I = some _ := hst₂
        have eI₃ := (hs₃.2 I (nn (by omega))).trans eI
        have F₃ : Fr h₀ L h₃ m := (fr_but F' hk₂ hIL hI₀).change hs₃ (nn (by omega)) (fresh₀ _ (by omega))
        have N₃ : News h₀ L h₃ ((I, _) :: (D + 1, oC) :: (D + 1 + 1, oc') :: (D, lst ys) :: nw) := fun p hp => by
          rcases List.mem_cons.mp hp with rfl | hp
          · exact ⟨eI₃, Ne.symm hIL, hI₀⟩
          · rcases List.mem_cons.mp hp with rfl | hp
            · exact ⟨(hs₃.2 _ (nn (by dsimp only; omega))).trans (kp _ _ (nn (by dsimp only; omega)) NC.1), NC.2⟩
            · rcases List.mem_cons.mp hp with rfl | hp
              · exact ⟨hoc', Nc.2⟩
              · rcases List.mem_cons.mp hp with rfl | hp
                · exact ⟨(hs₃.2 _ (nn (by dsimp only; omega))).trans (kp _ _ (nn (by dsimp only; omega)) ND.1), ND.2⟩
                · have q := off' p hp
                  exact ⟨(hs₃.2 _ q.2.2.1).trans (kp _ _ q.1 (Nn p hp).1), (Nn p hp).2⟩
        refine wpAny_mono (step i ys nw t _ (D + 1) oC (D + 1 + 1) oc' D h₃ _ _ hlt hInv hdc' F₃ N₃ off' ⟨nn (by omega), nn (by omega), nn (by omega), nn (by omega), nn (by omega), nn (by omega)⟩) (fun y s₄ h₄ => ?_) fun _ _ e => e
        obtain ⟨h₄, tk₄, nw₄, rfl, F₄, N₄, off₄, inv₄⟩ := h₄
        have zI := (N₄ _ List.mem_cons_self).1
        have zC := (N₄ (D + 1, oC) (List.mem_cons_of_mem _ List.mem_cons_self))
        have zc := (N₄ (D + 1 + 1, oc') (List.mem_cons_of_mem _ (List.mem_cons_of_mem _ List.mem_cons_self)))
        have zD := (N₄ (D, lst ys) (List.mem_cons_of_mem _ (List.mem_cons_of_mem _ (List.mem_cons_of_mem _ List.mem_cons_self))))
        have zn : News h₀ L h₄ nw₄ := fun p hp => N₄ p (List.mem_cons_of_mem _ (List.mem_cons_of_mem _ (List.mem_cons_of_mem _ (List.mem_cons_of_mem _ hp))))
        refine append_at (hsz := by show ys.toArray.size ≤ sizeLine; rw [List.size_toArray, hyl]; exact Nat.le_trans hi hsz) zD.1 fun h₅ hs₅ hD₅ => ?_
        refine ⟨n + 1 - (i + 1), by omega, h₅, tk₄, i + 1, ys ++ [y], nw₄, oC, oc', _, m', rfl, hlt, rfl, by rw [List.length_append, List.length_singleton, hyl], ?_, F₄.change hs₅ (nn (by omega)) (fresh₀ _ (Nat.le_refl _)), hdc', hoC, fun p hp => ?_, off₄, inv₄⟩
        · show h₅.get? I = some _
          exact (hs₅.2 I (nn (by omega))).trans zI
        · rcases List.mem_cons.mp hp with rfl | hp
          · exact ⟨(hs₅.2 _ (nn (by dsimp only; omega))).trans zC.1, zC.2⟩
          · rcases List.mem_cons.mp hp with rfl | hp
            · exact ⟨(hs₅.2 _ (nn (by dsimp only; omega))).trans zc.1, zc.2⟩
            · rcases List.mem_cons.mp hp with rfl | hp
              · exact ⟨hD₅.trans (congrArg some (lst_snoc ys y)), zD.2⟩
              · exact ⟨(hs₅.2 _ (off₄ p hp).2.2.2).trans (zn p hp).1, (zn p hp).2⟩
      · obtain rfl : i = n := Nat.le_antisymm hi (Nat.not_lt.mp hlt)
        refine W.done _ _ _ hit fun h₂ tk₂ hk₂ => ?_
        have kp : ∀ b o, b ≠ I → h'.get? b = some o → h₂.get? b = some o := fun b o hb e => hk₂ b o (by simpa using hb) e
        refine hRR D (D + 1) h₂ tk₂ m' ys nw (fr_but F' hk₂ hIL hI₀) (fun p hp => ?_) ?_ (hoC.ns (kp _ _ (nn (by omega)) NC.1)) (fresh₀ _ (by omega)) (nn (by omega)) (nn (by omega)) (fun p hp => (off' p hp).2.1) hInv
        · rcases List.mem_cons.mp hp with rfl | hp
          · exact ⟨kp _ _ (nn (by dsimp only; omega)) ND.1, ND.2⟩
          · exact ⟨kp _ _ (off' p hp).1 (Nn p hp).1, (Nn p hp).2⟩
        · exact (Off3.of (I := I) (C := D + 1) fun p hp => ⟨(off' p hp).1, (off' p hp).2.1, (off' p hp).2.2.2⟩).one
    · have e : s₂.heap.get? I = some _ := hst
      show IsRangeIter H3 I (a + ((0 : Nat) : Int) * 1) ((n : Int) - ((0 : Nat) : Int)) 1
      rw [show a + ((0 : Nat) : Int) * 1 = a by omega, show (n : Int) - ((0 : Nat) : Int) = n by omega]
      exact up _ _ e
    · rcases List.mem_cons.mp hp with rfl | hp
      · exact ⟨gC, nn (by dsimp only; omega), fresh₀ _ (by omega)⟩
      · rcases List.mem_cons.mp hp with rfl | hp
        · exact ⟨gc, nn (by dsimp only; omega), fresh₀ _ (by omega)⟩
        · rcases List.mem_cons.mp hp with rfl | hp
          · exact ⟨gD, nn (by dsimp only; omega), fresh₀ _ (Nat.le_refl _)⟩
          · exact ⟨up _ _ (N p hp).1, (N p hp).2⟩
    · have q := offD p hp
      exact ⟨off p hp, nn (by omega), nn (by omega), nn (by omega)⟩
  have eI : H3.get? I = some _ := up _ _ hst
  exact codeAny_compStart_list loop (wpAny_pyIter_rangeiter (x := a) (left := n) (step := 1) eI loop)

def CellSrc (prog : Program) (w : World) (A : Around) (h₀ : Heap) (L : Addr) (m : Str → Option Value) (env : Env) (elt : Expr) (x : Str) (scope : Scope) (cl : List (Str × Addr)) (Q : Value → Shared → Prop) (xv : Value) (s₁ : Shared) : Prop :=
  ∃ r a b t u v n news, ∃ Inv : Nat → List Value → List (Addr × Obj) → Prop, xv = .ref r ∧ A.handled = none ∧ Fr h₀ L s₁.heap m ∧ News h₀ L s₁.heap news ∧ IsRange s₁.heap r a b 1 t u v ∧ Builtin.Range.small a b 1 = true ∧ Builtin.Range.rangeSize a b 1 = ((n : Nat) : Int) ∧ n ≤ sizeLine ∧ Inv 0 [] news ∧
    (∀ i ys nw t I oI C oC c oc D h tk (E' : Value → Shared → Prop), i < n → Inv i ys nw → oc.data = .cell (some (.int (a + (i : Int)) t)) → Fr h₀ L h m → News h₀ L h ((I, oI) :: (C, oC) :: (c, oc) :: (D, lst ys) :: nw) → Off4 I C c D nw →
      ((@Ne Nat I C) ∧ (@Ne Nat I c) ∧ (@Ne Nat I D) ∧ (@Ne Nat C c) ∧ (@Ne Nat C D) ∧ (@Ne Nat c D)) →
      wpAny (model prog w) A (eval elt (compEnvC scope ((x, c) :: cl) C env)) (fun y s₄ => ∃ h' tk' nw', s₄ = { s₁ with heap := h', toks := tk' } ∧ Fr h₀ L h' m ∧ News h₀ L h' ((I, oI) :: (C, oC) :: (c, oc) :: (D, lst ys) :: nw') ∧ Off4 I C c D nw' ∧ Inv (i + 1) (ys ++ [y]) nw') E' { s₁ with heap := h, toks := tk }) ∧
    (∀ ys nw D h tk, Inv n ys nw → Fr h₀ L h m → News h₀ L h ((D, lst ys) :: nw) → Off1 D nw → Q (.ref D) { s₁ with heap := h, toks := tk })

theorem ListComp_cell {elt iter : Expr} {x : Str} {px : Pos} {scope : Scope} {cl : List (Str × Addr)} {pos : Pos} {Q : Value → Shared → Prop}
    (hclos : closureFor scope env = pure cl) (hkind : scope.kind = .function)
    (hnames : ∀ y ∈ scope.names, y.2 = .local → scope.names.lookup y.1 = some .local) (hx : scope.names.lookup x = some .cell)
    (hcells : ∀ k, cellsFrom k scope.names cl = (x, k) :: cl) (hpush : ∀ h, pushCells h scope.names = h.push { cls := .type "cell", data := .cell none })
    (h : wpAny (model prog w) A (eval iter env) (CellSrc prog w A h₀ L m env elt x scope cl Q) E s)
    (hs : ∀ x, foldedSetIterable iter env x = pure x := by intro _; rfl) :
    wpAny (model prog w) A (eval (.ListComp elt [⟨.Name x px, iter, [], 0⟩] scope pos) env) Q E s := by
  rw [eval_ListComp]
  refine wpAny_comprehension_free (use := none) rfl hs hclos hkind hnames (wpAny_mono h (fun xv s₁ h₁ => ?_) fun _ _ e => e)
  obtain ⟨r, a, b, t, u, v, n, news, Inv, rfl, hh, F, N, hr, hsm, hn, hsz, h0, step, fin⟩ := h₁
  refine wpAny_pyIter_range hr hsm ?_
  have up : ∀ b' o, s₁.heap.get? b' = some o → (s₁.heap.push { cls := .type "range_iterator", data := .fields #[rawInt a, rawInt (Builtin.Range.rangeSize a b 1), rawInt 1] }).get? b' = some o := fun _ _ e => Heap.get?_push_of_some _ e
  refine block_cell Inv hh hsz hkind hx hcells hpush (a := a) (by show IsRangeIter _ _ _ _ _; rw [hn]; exact Heap.get?_push_size _ rfl)
    (F.keeps up) (N.grown up) (Nat.ne_of_lt F.ns.lt) (next_is_new F) (fun p hp => Nat.ne_of_lt (Heap.lt_size (N p hp).1)) h0 ?_ ?_
  · intro i ys nw t oI C oC c oc D h tk E' hi hI hc F' N' o' ne'
    exact step i ys nw t _ oI C oC c oc D h tk E' hi hI hc F' N' o' ne'
  · intro D C h tk m' ys nw F' N' o1 hn' hC₀ hCL hCD offC hI
    refine ⟨m', hn', fun h'' hs'' => fin ys nw D h'' tk hI (F'.change hs'' hCL hC₀) (fun p hp => ?_) o1⟩
    refine ⟨hs''.extBut _ _ ?_ (N' p hp).1, (N' p hp).2⟩
    rcases List.mem_cons.mp hp with rfl | hp
    · exact Ne.symm hCD
    · exact offC p hp

def Off2 (I c : Addr) (nw : List (Addr × Obj)) : Prop := ∀ p ∈ nw, p.1 ≠ I ∧ p.1 ≠ c

def TurnC (h₀ : Heap) (L : Addr) (I : Addr) (oI : Obj) (c : Addr) (oc : Obj) (s₁ : Shared) (J : (Str → Option Value) → List (Addr × Obj) → Prop) (Q : Flow → Shared → Prop) (f : Flow) (s₃ : Shared) : Prop :=
  match f with
  | .ret v => Q (.ret v) s₃
  | .brk => Q .next s₃
  | _ => ∃ h' tk' m' nw', s₃ = { s₁ with heap := h', toks := tk' } ∧ Fr h₀ L h' m' ∧ News h₀ L h' ((I, oI) :: (c, oc) :: nw') ∧ Off2 I c nw' ∧ J m' nw'

def ForCellSrc (prog : Program) (w : World) (A : Around) (h₀ : Heap) (env : Env) (c : Addr) (body : List Stmt) (Q : Flow → Shared → Prop) (E : Value → Shared → Prop) (xv : Value) (s₁ : Shared) : Prop :=
  ∃ r a b t u v n news m₀ oc₀ vc₀, ∃ Inv : Nat → (Str → Option Value) → List (Addr × Obj) → Prop, xv = .ref r ∧ A.handled = none ∧ Fr h₀ env.locals s₁.heap m₀ ∧ News h₀ env.locals s₁.heap ((c, oc₀) :: news) ∧ oc₀.data = .cell vc₀ ∧ (∀ p ∈ news, p.1 ≠ c) ∧
    IsRange s₁.heap r a b 1 t u v ∧ Builtin.Range.small a b 1 = true ∧ Builtin.Range.rangeSize a b 1 = ((n : Nat) : Int) ∧ Inv 0 m₀ news ∧
    (∀ i m₁ nw t I oI oc h tk, i < n → Inv i m₁ nw → oc.data = .cell (some (.int (a + (i : Int)) t)) → Fr h₀ env.locals h m₁ → News h₀ env.locals h ((I, oI) :: (c, oc) :: nw) → Off2 I c nw → (@Ne Nat I c) →
      wpAny (model prog w) A (execs body env) (TurnC h₀ env.locals I oI c oc s₁ (Inv (i + 1)) Q) E { s₁ with heap := h, toks := tk }) ∧
    (∀ m₁ nw oc vc h tk, Inv n m₁ nw → oc.data = .cell vc → Fr h₀ env.locals h m₁ → News h₀ env.locals h ((c, oc) :: nw) → (∀ p ∈ nw, p.1 ≠ c) → Q .next { s₁ with heap := h, toks := tk })

theorem For_cell {Q : Flow → Shared → Prop} {x : Str} {px pos : Pos} {iter : Expr} {body : List Stmt} {c : Addr} (hk : env.scope.kind = .function) (hx : env.kindOf x = some .cell) (hc : env.cells.lookup x = some c)
    (h : wpAny (model prog w) A (eval iter env) (fun xv s₁ => ForCellSrc prog w A h₀ env c body Q E xv s₁) E s)
    (hE : PassesOwn (model prog w) A env E)
    (hs : ∀ x, foldedSetIterable iter env x = pure x := by intro _; rfl) :
    wpAny (model prog w) A (exec (.For (.Name x px) iter body [] pos) env) Q E s := by
  refine wpAny_For (wpAny_mono h (fun xv s₁ h₁ => ?_) fun _ _ e => e) hs
  obtain ⟨r, a, b, t, u, v, n, news, m₀, oc₀, vc₀, Inv, rfl, hh, F, N, hoc₀, offc, hr, hsm, hn, h0, step, fin⟩ := h₁
  refine wpAny_pyIter_range hr hsm ?_
  have hcell := N (c, oc₀) List.mem_cons_self
  generalize hI : s₁.heap.objs.size = I
  have up : ∀ b' o, s₁.heap.get? b' = some o → (s₁.heap.push { cls := .type "range_iterator", data := .fields #[rawInt a, rawInt (Builtin.Range.rangeSize a b 1), rawInt 1] }).get? b' = some o := fun _ _ e => Heap.get?_push_of_some _ e
  have hI₀ : h₀.get? I = none := hI ▸ next_is_new F
  have hIL : env.locals ≠ I := hI ▸ Nat.ne_of_lt F.ns.lt
  have hIc : I ≠ c := hI ▸ Ne.symm (Nat.ne_of_lt (Heap.lt_size hcell.1))
  have W := range_walks (prog := prog) (w := w) (A := A) (I := I) hh a n
  refine codeAny_forLoop
    (fun k s' => ∃ h' tk i m₁ nw oc vc, s' = { s₁ with heap := h', toks := tk } ∧ i ≤ n ∧ k = n + 1 - i ∧ IsRangeIter h' I (a + (i : Nat) * 1) ((n : Int) - (i : Nat)) 1 ∧ Fr h₀ env.locals h' m₁ ∧
      oc.data = .cell vc ∧ News h₀ env.locals h' ((c, oc) :: nw) ∧ Off2 I c nw ∧ Inv i m₁ nw) ?_ (n + 1)
    ⟨_, _, 0, m₀, news, oc₀, vc₀, rfl, Nat.zero_le _, rfl, ?_, F.keeps up, hoc₀, N.grown up, fun p hp => ⟨?_, offc p hp⟩, h0⟩
  · rintro k s' ⟨h', tk, i, m₁, nw, oc, vc, rfl, hi, rfl, hit, F', hoc, N', off', hInv⟩
    have Nc := N' (c, oc) List.mem_cons_self
    by_cases hlt : i < n
    · refine W.item i _ _ _ hlt hit fun v h₂ tk₂ hPv hst₂ hk₂ => ?_
      obtain ⟨t, rfl⟩ := hPv
      have kp : ∀ b o, b ≠ I → h'.get? b = some o → h₂.get? b = some o := fun b o hb e => hk₂ b o (by simpa using hb) e
      refine wpAny_assign_Name (wpAny_storeName_cell hk hx hc (v₀ := vc) ⟨oc, kp _ _ (Ne.symm hIc) Nc.1, hoc⟩ fun h₃ hc₃ hs₃ => ?_)
      obtain ⟨oc', hoc', hdc'⟩ := hc₃
      obtain ⟨oI, eI, backI⟩ : ∃ oI, h₂.get? I = some oI ∧ ∀ h' : Heap, h'.get? I = some oI → IsRangeIter h' I (a + ((i + 1 : Nat) : Int) * 1) ((n : Int) - ((i + 1 : Nat) : Int)) 1 := ⟨_, hst₂, fun _ e => e⟩
      have eI₃ := (hs₃.2 I hIc).trans eI
      have F₃ : Fr h₀ env.locals h₃ m₁ := (fr_but F' hk₂ hIL hI₀).change hs₃ Nc.2.1 Nc.2.2
      have N₃ : News h₀ env.locals h₃ ((I, oI) :: (c, oc') :: nw) := fun p hp => by
        rcases List.mem_cons.mp hp with rfl | hp
        · exact ⟨eI₃, Ne.symm hIL, hI₀⟩
        · rcases List.mem_cons.mp hp with rfl | hp
          · exact ⟨hoc', Nc.2⟩
          · have z := N' p (List.mem_cons_of_mem _ hp)
            exact ⟨(hs₃.2 _ (off' p hp).2).trans (kp _ _ (off' p hp).1 z.1), z.2⟩
      refine wpAny_passesOwn hE (wpAny_mono (step i m₁ nw t I oI oc' h₃ _ hlt hInv hdc' F₃ N₃ off' hIc) (fun f s₃ h₃' => ?_) fun _ _ e => e)
      have fin' : (∃ h' tk' m' nw', s₃ = { s₁ with heap := h', toks := tk' } ∧ Fr h₀ env.locals h' m' ∧ News h₀ env.locals h' ((I, oI) :: (c, oc') :: nw') ∧ Off2 I c nw' ∧ Inv (i + 1) m' nw') →
          ∃ k', k' < n + 1 - i ∧ ∃ h' tk i m₁ nw oc vc, s₃ = { s₁ with heap := h', toks := tk } ∧ i ≤ n ∧ k' = n + 1 - i ∧ IsRangeIter h' I (a + (i : Nat) * 1) ((n : Int) - (i : Nat)) 1 ∧ Fr h₀ env.locals h' m₁ ∧
            oc.data = .cell vc ∧ News h₀ env.locals h' ((c, oc) :: nw) ∧ Off2 I c nw ∧ Inv i m₁ nw := by
        rintro ⟨h₄, tk₄, m₄, nw₄, rfl, F₄, N₄, off₄, inv₄⟩
        exact ⟨n + 1 - (i + 1), by omega, h₄, tk₄, i + 1, m₄, nw₄, oc', _, rfl, hlt, rfl, backI _ (N₄ _ List.mem_cons_self).1, F₄, hdc', fun p hp => N₄ p (List.mem_cons_of_mem _ hp), off₄, inv₄⟩
      cases f with
      | ret v => exact h₃'
      | brk => exact h₃'
      | cont => exact fin' h₃'
      | next => exact fin' h₃'
    · obtain rfl : i = n := Nat.le_antisymm hi (Nat.not_lt.mp hlt)
      refine W.done _ _ _ hit fun h₂ tk₂ hk₂ => wpAny_execs_nil ?_
      have kp : ∀ b o, b ≠ I → h'.get? b = some o → h₂.get? b = some o := fun b o hb e => hk₂ b o (by simpa using hb) e
      refine fin m₁ nw oc vc h₂ tk₂ hInv hoc (fr_but F' hk₂ hIL hI₀) (fun p hp => ?_) fun p hp => (off' p hp).2
      rcases List.mem_cons.mp hp with rfl | hp
      · exact ⟨kp _ _ (Ne.symm hIc) Nc.1, Nc.2⟩
      · have z := N' p (List.mem_cons_of_mem _ hp)
        exact ⟨kp _ _ (off' p hp).1 z.1, z.2⟩
  · show IsRangeIter _ I (a + ((0 : Nat) : Int) * 1) ((n : Int) - ((0 : Nat) : Int)) 1
    rw [show a + ((0 : Nat) : Int) * 1 = a by omega, show (n : Int) - ((0 : Nat) : Int) = n by omega, ← hI, ← hn]
    exact Heap.get?_push_size _ rfl
  · exact hI ▸ Nat.ne_of_lt (Heap.lt_size (N p (List.mem_cons_of_mem _ hp)).1)
end
end Mine

set_option maxRecDepth 100000
namespace Mine
open PySem PySem.W PySem.Spec PySem.Calls PyProof.Rows

theorem datAll_get? {news : List (Addr × Obj)} {vs : List Value} {ds : List Dat} (h : DatAll news vs ds) (k : Nat) : (∃ v d, vs[k]? = some v ∧ ds[k]? = some d ∧ DatIn news v d) ∨ (vs[k]? = none ∧ ds[k]? = none) := by
  by_cases hk : k < ds.length
  · obtain ⟨v, hv, hd⟩ := h.get hk
    exact .inl ⟨v, _, hv, List.getElem?_eq_getElem hk, hd⟩
  · have hl := h.length
    exact .inr ⟨List.getElem?_eq_none (by omega), List.getElem?_eq_none (by omega)⟩

theorem datAll_idx {news : List (Addr × Obj)} {vs : List Value} {ds : List Dat} (h : DatAll news vs ds) : ∀ idx : List Nat, DatAll news (idx.filterMap (vs.toArray[·]?)) (idx.filterMap (ds[·]?))
  | [] => .nil
  | k :: idx => by
    have ih := datAll_idx h idx
    rcases datAll_get? h k with ⟨v, d, hv, hd, hi⟩ | ⟨hv, hd⟩
    · have hv' : vs.toArray[k]? = some v := by simpa using hv
      rw [List.filterMap_cons, List.filterMap_cons, hv', hd]
      exact .cons hi ih
    · have hv' : vs.toArray[k]? = none := by simpa using hv
      rw [List.filterMap_cons, List.filterMap_cons, hv', hd]
      exact ih

theorem datAll_pick {news : List (Addr × Obj)} {vs : List Value} {ds : List Dat} (h : DatAll news vs ds) (lo hi st : Option Int) : DatAll news (slicePick vs.toArray lo hi st).toList (pickD ds lo hi st) := by
  unfold slicePick pickD
  rw [List.size_toArray, h.length]
  exact datAll_idx h _

section
variable {prog : Program} {w : World} {A : Around} {E : Value → Shared → Prop} {s : Shared} {h₀ : Heap} {L l : Addr} {m : Str → Option Value} {news : List (Addr × Obj)} {value slice : PySem.Expr} {vs : List Value} {nn : Nat} {Q : Value → Shared → Prop}

theorem item_dat {ds : List Dat} {k : Int} {u : Tok} {d : Dat} (hm : s.heap.IsList l vs.toArray) (hd : DatAll news vs ds) (h0 : 0 ≤ k) (hhi : k < 2 ^ 63) (hk : ds[k.toNat]? = some d)
    (h : ∀ v, vs[k.toNat]? = some v → DatIn news v d → Q v s)
    (hs : subscripted slice false (.ref l) (.int k u) = operate [.ref l, .int k u] (getItem (.ref l) (.int k u)) := by with_unfolding_all rfl) :
    wpAny (model prog w) A (subscriptTail value slice (.ref l) (.int k u)) Q E s := by
  rcases datAll_get? hd k.toNat with ⟨v, d', hv, hd', hi⟩ | ⟨_, hn⟩
  · rw [hk] at hd'
    cases hd'
    exact tail_any hm.typeIs slot_list_getitem.lookup (wpAny_getItem_list hm h0 hhi (by simpa using hv) (h v hv hi)) hs
  · rw [hk] at hn; cases hn

theorem slice_dat {lo hi : Option Int} {vl vu : Value} {ds es : List Dat} {tl : List (Addr × Obj)} (F : Fr h₀ L s.heap m) (N : News h₀ L s.heap news) (hl : s.heap.IsList l vs.toArray) (pl : IsPart vl lo) (pu : IsPart vu hi) (hd : DatAll tl vs ds) (he : pickD ds lo hi none = es)
    (h : ∀ D ys h', Fr h₀ L h' m → News h₀ L h' ((D, listOf (List.toArray ys) 0) :: news) → (∀ p ∈ news, p.1 < D) → DatAll tl ys es → Q (.ref D) { s with heap := h' })
    (hs : subscripted slice false (.ref l) (.ref s.heap.objs.size) = operate [.ref s.heap.objs.size, .ref l] (getItem (.ref l) (.ref s.heap.objs.size))) (ht : ∀ r, letTemporaryGo value (.ref l) r = pure ()) (hz : vs.length ≤ sizeLine) :
    wpAny (model prog w) A (subscriptTail value slice (.ref l) (.ref s.heap.objs.size)) Q E { s with heap := s.heap.push { cls := .type "slice", data := .fields #[vl, vu, .none] } } := by
  refine kmk_slice F N hl pl pu (fun D h' F' N' l1 => h D (slicePick vs.toArray lo hi none).toList h' F' ?_ l1 (he ▸ datAll_pick hd _ _ _)) hs ht (by simpa using hz)
  rw [Array.toArray_toList]
  exact N'

theorem slice_dat3 {lo hi st : Option Int} {vl vu vk : Value} {ds es : List Dat} {tl : List (Addr × Obj)} {ops : List Value} (F : Fr h₀ L s.heap m) (N : News h₀ L s.heap news) (hl : s.heap.IsList l vs.toArray) (pl : IsPart vl lo) (pu : IsPart vu hi) (pk : IsPart vk st) (hst : st ≠ some 0) (hd : DatAll tl vs ds) (he : pickD ds lo hi st = es)
    (h : ∀ D ys h', Fr h₀ L h' m → News h₀ L h' ((D, listOf (List.toArray ys) 0) :: news) → (∀ p ∈ news, p.1 < D) → DatAll tl ys es → Q (.ref D) { s with heap := h' })
    (hs : subscripted slice false (.ref l) (.ref s.heap.objs.size) = operate ops (getItem (.ref l) (.ref s.heap.objs.size))) (ht : ∀ r, letTemporaryGo value (.ref l) r = pure ()) (hz : vs.length ≤ sizeLine) :
    wpAny (model prog w) A (subscriptTail value slice (.ref l) (.ref s.heap.objs.size)) Q E { s with heap := s.heap.push { cls := .type "slice", data := .fields #[vl, vu, vk] } } := by
  refine kmk_slice3_lit (zs := (slicePick vs.toArray lo hi st).toList) F N hl pl pu pk hst rfl (fun D h' F' N' l1 => h D _ h' F' N' l1 (he ▸ datAll_pick hd _ _ _)) hs ht (by simpa using hz)
end
end Mine

set_option maxRecDepth 100000
namespace Mine
open PySem PySem.W PySem.Spec PySem.Calls PyProof.Rows PyProof.Rows.LCg

/-- a pure piece of code: the ledger is grown by new objects alone -/
def Made (h₀ : Heap) (L : Addr) (m : Str → Option Value) (s : Shared) (news : List (Addr × Obj)) (G : Value → List (Addr × Obj) → Prop) (y : Value) (s₂ : Shared) : Prop :=
  ∃ h' tk add, s₂ = { s with heap := h', toks := tk } ∧ Fr h₀ L h' m ∧ News h₀ L h' (news ++ add) ∧ (∀ p ∈ add, ∀ q ∈ news, p.1 ≠ q.1) ∧ G y add

theorem Made.intro {h₀ : Heap} {L : Addr} {m : Str → Option Value} {s : Shared} {news all : List (Addr × Obj)} {G : Value → List (Addr × Obj) → Prop} {y : Value} {h' : Heap} {tk : Nat} (add : List (Addr × Obj))
    (F : Fr h₀ L h' m) (N : News h₀ L h' all) (hs : ∀ p ∈ news ++ add, p ∈ all) (off : ∀ p ∈ add, ∀ q ∈ news, p.1 ≠ q.1) (hG : G y add) : Made h₀ L m s news G y { s with heap := h', toks := tk } :=
  ⟨h', tk, add, rfl, F, fun p hp => N p (hs p hp), off, hG⟩

section
variable {prog : Program} {w : World} {A : Around} {E : Value → Shared → Prop} {s : Shared} {h₀ : Heap} {L : Addr} {m : Str → Option Value} {env : Env} {news : List (Addr × Obj)}

def InvD (news tl : List (Addr × Obj)) (Pr : Nat → List Dat → Prop) (i : Nat) (ys : List Value) (nw : List (Addr × Obj)) : Prop :=
  ∃ add ds, nw = news ++ add ∧ (∀ p ∈ add, ∀ q ∈ news, p.1 ≠ q.1) ∧ ds.length = i ∧ Pr i ds ∧ DatAll (tl ++ add) ys ds

theorem InvD.snoc {tl : List (Addr × Obj)} {Pr : Nat → List Dat → Prop} {i : Nat} {ys : List Value} {ds : List Dat} {d : Dat} {y : Value} {add add2 : List (Addr × Obj)} (o1 : ∀ p ∈ add, ∀ q ∈ news, p.1 ≠ q.1) (o2 : ∀ p ∈ add2, ∀ q ∈ news, p.1 ≠ q.1) (hl : ds.length = i)
    (hD : DatAll (tl ++ add) ys ds) (hd : DatIn ((tl ++ add) ++ add2) y d) (hp : Pr (i + 1) (ds ++ [d])) : InvD news tl Pr (i + 1) (ys ++ [y]) (news ++ (add ++ add2)) := by
  refine ⟨add ++ add2, ds ++ [d], rfl, fun p hp q hq => ?_, by rw [List.length_append, List.length_singleton, hl], hp, ?_⟩
  · rcases List.mem_append.mp hp with hp | hp
    · exact o1 p hp q hq
    · exact o2 p hp q hq
  · rw [← List.append_assoc]
    exact (hD.mono fun p hp => List.mem_append_left _ hp).append (.one hd)

theorem src_range {elt : Expr} {x : Str} {scope : Scope} {cl : List (Str × Addr)} {Fin : Shared → List Value → List (Addr × Obj) → Prop} {r : Addr} {a b : Int} {t u v : Tok} {n : Nat} {s₁ : Shared}
    (Pr : Nat → List Dat → Prop) (tl : List (Addr × Obj)) (hh : A.handled = none) (F : Fr h₀ L s₁.heap m) (N : News h₀ L s₁.heap news) (hr : IsRange s₁.heap r a b 1 t u v) (hsm : Builtin.Range.small a b 1 = true) (hn : Builtin.Range.rangeSize a b 1 = ((n : Nat) : Int)) (hsz : n ≤ sizeLine) (h0 : Pr 0 [])
    (turn : ∀ i ys ds add t I oI C oC D m₂ h tk (E' : Value → Shared → Prop), i < n → ds.length = i → Pr i ds → DatAll (tl ++ add) ys ds → NsObj oC m₂ → m₂ x = some (.int (a + (i : Int)) t) → Fr h₀ L h m → News h₀ L h ((I, oI) :: (C, oC) :: (D, lst ys) :: (news ++ add)) →
      wpAny (model prog w) A (eval elt (compEnvC scope cl C env)) (Made h₀ L m { s₁ with heap := h, toks := tk } ((I, oI) :: (C, oC) :: (D, lst ys) :: (news ++ add)) (fun y add2 => ∃ d, DatIn ((tl ++ add) ++ add2) y d ∧ Pr (i + 1) (ds ++ [d]))) E' { s₁ with heap := h, toks := tk })
    (fin : ∀ g ys ds add, ds.length = n → Pr n ds → DatAll (tl ++ add) ys ds → (∀ p ∈ add, ∀ q ∈ news, p.1 ≠ q.1) → Fin { s₁ with heap := g } ys (news ++ add)) :
    CompSrc prog w A h₀ L m env elt x scope cl Fin (.ref r) s₁ := by
  refine CompSrc.range hh F N hr hsm hn hsz fun g => restInv (InvD news tl Pr) ?_ ?_ n 0 [] news rfl ⟨[], [], by simp, fun _ hp => (nomatch hp), rfl, h0, .nil⟩
  · rintro ys nw ⟨add, ds, rfl, o1, hl, hp, hD⟩
    exact fin g ys ds add hl hp hD o1
  · rintro i ys nw hi ⟨add, ds, rfl, o1, hl, hp, hD⟩ v I oI C oC D m₂ h tk E' ⟨t, rfl⟩ hC hx F' N' off' ne'
    refine wpAny_mono (turn i ys ds add t I oI C oC D m₂ h tk E' hi hl hp hD hC hx F' N') (fun y s₂ hy => ?_) fun _ _ e => e
    obtain ⟨h', tk', add2, rfl, F₂, N₂, o2, d, hd, hp'⟩ := hy
    have o2n : ∀ p ∈ add2, ∀ q ∈ news, p.1 ≠ q.1 := fun p hp q hq => o2 p hp q (List.mem_cons_of_mem _ (List.mem_cons_of_mem _ (List.mem_cons_of_mem _ (List.mem_append_left _ hq))))
    refine ⟨h', tk', news ++ (add ++ add2), rfl, F₂, ?_, ?_, trivial, InvD.snoc o1 o2n hl hD hd hp'⟩
    · rw [← List.append_assoc]; exact N₂
    · rw [← List.append_assoc]
      refine Off3.of fun p hp => ?_
      rcases List.mem_append.mp hp with hp | hp
      · exact off'.mem p hp
      · exact ⟨o2 p hp _ List.mem_cons_self, o2 p hp _ (List.mem_cons_of_mem _ List.mem_cons_self), o2 p hp _ (List.mem_cons_of_mem _ (List.mem_cons_of_mem _ List.mem_cons_self))⟩

theorem src_list {elt : Expr} {x : Str} {scope : Scope} {cl : List (Str × Addr)} {Fin : Shared → List Value → List (Addr × Obj) → Prop} {ax : Addr} {vs : List Value} {k : Nat} {es : List Dat} {s₁ : Shared}
    (Pr : Nat → List Dat → Prop) (tl : List (Addr × Obj)) (hh : A.handled = none) (F : Fr h₀ L s₁.heap m) (N : News h₀ L s₁.heap news) (hm : (ax, ({ cls := .type "list", data := .seq vs.toArray k } : Obj)) ∈ news) (hvs : DatAll tl vs es) (hsz : vs.length ≤ sizeLine) (h0 : Pr 0 [])
    (turn : ∀ i v e ys ds add I oI C oC D m₂ h tk (E' : Value → Shared → Prop), es[i]? = some e → DatIn tl v e → ds.length = i → Pr i ds → DatAll (tl ++ add) ys ds → NsObj oC m₂ → m₂ x = some v → Fr h₀ L h m → News h₀ L h ((I, oI) :: (C, oC) :: (D, lst ys) :: (news ++ add)) →
      wpAny (model prog w) A (eval elt (compEnvC scope cl C env)) (Made h₀ L m { s₁ with heap := h, toks := tk } ((I, oI) :: (C, oC) :: (D, lst ys) :: (news ++ add)) (fun y add2 => ∃ d, DatIn ((tl ++ add) ++ add2) y d ∧ Pr (i + 1) (ds ++ [d]))) E' { s₁ with heap := h, toks := tk })
    (fin : ∀ g ys ds add, ds.length = es.length → Pr es.length ds → DatAll (tl ++ add) ys ds → (∀ p ∈ add, ∀ q ∈ news, p.1 ≠ q.1) → Fin { s₁ with heap := g } ys (news ++ add)) :
    CompSrc prog w A h₀ L m env elt x scope cl Fin (.ref ax) s₁ := by
  have hlen : vs.toArray.size = es.length := by rw [List.size_toArray, hvs.length]
  refine CompSrc.ledger hh F N hm (by rw [List.size_toArray]; exact hsz) fun g => ?_
  rw [hlen]
  refine restInv (InvD news tl Pr) ?_ ?_ es.length 0 [] news rfl ⟨[], [], by simp, fun _ hp => (nomatch hp), rfl, h0, .nil⟩
  · rintro ys nw ⟨add, ds, rfl, o1, hl, hp, hD⟩
    exact fin g ys ds add hl hp hD o1
  · rintro i ys nw hi ⟨add, ds, rfl, o1, hl, hp, hD⟩ v I oI C oC D m₂ h tk E' hv hC hx F' N' off' ne'
    have hv' : vs[i]? = some v := by simpa using hv
    rcases datAll_get? hvs i with ⟨v', e, h1, h2, h3⟩ | ⟨h1, _⟩
    · rw [hv'] at h1
      cases h1
      refine wpAny_mono (turn i v e ys ds add I oI C oC D m₂ h tk E' h2 h3 hl hp hD hC hx F' N') (fun y s₂ hy => ?_) fun _ _ e => e
      obtain ⟨h', tk', add2, rfl, F₂, N₂, o2, d, hd, hp'⟩ := hy
      have o2n : ∀ p ∈ add2, ∀ q ∈ news, p.1 ≠ q.1 := fun p hp q hq => o2 p hp q (List.mem_cons_of_mem _ (List.mem_cons_of_mem _ (List.mem_cons_of_mem _ (List.mem_append_left _ hq))))
      refine ⟨h', tk', news ++ (add ++ add2), rfl, F₂, ?_, ?_, .inr ⟨_, List.mem_append_left _ hm, rfl, _, rfl⟩, InvD.snoc o1 o2n hl hD hd hp'⟩
      · rw [← List.append_assoc]; exact N₂
      · rw [← List.append_assoc]
        refine Off3.of fun p hp => ?_
        rcases List.mem_append.mp hp with hp | hp
        · exact off'.mem p hp
        · exact ⟨o2 p hp _ List.mem_cons_self, o2 p hp _ (List.mem_cons_of_mem _ List.mem_cons_self), o2 p hp _ (List.mem_cons_of_mem _ (List.mem_cons_of_mem _ List.mem_cons_self))⟩
    · rw [hv'] at h1; cases h1

theorem src_cell {elt : Expr} {x : Str} {scope : Scope} {cl : List (Str × Addr)} {Q : Value → Shared → Prop} {r : Addr} {a b : Int} {t u v : Tok} {n : Nat} {s₁ : Shared}
    (Pr : Nat → List Dat → Prop) (tl : List (Addr × Obj)) (hh : A.handled = none) (F : Fr h₀ L s₁.heap m) (N : News h₀ L s₁.heap news) (hr : IsRange s₁.heap r a b 1 t u v) (hsm : Builtin.Range.small a b 1 = true) (hn : Builtin.Range.rangeSize a b 1 = ((n : Nat) : Int)) (hsz : n ≤ sizeLine) (h0 : Pr 0 [])
    (turn : ∀ i ys ds add t I oI C oC c oc D h tk (E' : Value → Shared → Prop), i < n → ds.length = i → Pr i ds → DatAll (tl ++ add) ys ds → oc.data = .cell (some (.int (a + (i : Int)) t)) → Fr h₀ L h m → News h₀ L h ((I, oI) :: (C, oC) :: (c, oc) :: (D, lst ys) :: (news ++ add)) →
      wpAny (model prog w) A (eval elt (compEnvC scope ((x, c) :: cl) C env)) (Made h₀ L m { s₁ with heap := h, toks := tk } ((I, oI) :: (C, oC) :: (c, oc) :: (D, lst ys) :: (news ++ add)) (fun y add2 => ∃ d, DatIn ((tl ++ add) ++ add2) y d ∧ Pr (i + 1) (ds ++ [d]))) E' { s₁ with heap := h, toks := tk })
    (fin : ∀ D ys ds add h tk, ds.length = n → Pr n ds → DatAll (tl ++ add) ys ds → (∀ p ∈ add, ∀ q ∈ news, p.1 ≠ q.1) → Fr h₀ L h m → News h₀ L h ((D, lst ys) :: (news ++ add)) → Off1 D (news ++ add) → Q (.ref D) { s₁ with heap := h, toks := tk }) :
    CellSrc prog w A h₀ L m env elt x scope cl Q (.ref r) s₁ := by
  refine ⟨r, a, b, t, u, v, n, news, InvD news tl Pr, rfl, hh, F, N, hr, hsm, hn, hsz, ⟨[], [], by simp, fun _ hp => (nomatch hp), rfl, h0, .nil⟩, ?_, ?_⟩
  · rintro i ys nw t I oI C oC c oc D h tk E' hi ⟨add, ds, rfl, o1, hl, hp, hD⟩ hc F' N' off' ne'
    refine wpAny_mono (turn i ys ds add t I oI C oC c oc D h tk E' hi hl hp hD hc F' N') (fun y s₂ hy => ?_) fun _ _ e => e
    obtain ⟨h', tk', add2, rfl, F₂, N₂, o2, d, hd, hp'⟩ := hy
    have o2n : ∀ p ∈ add2, ∀ q ∈ news, p.1 ≠ q.1 := fun p hp q hq => o2 p hp q (List.mem_cons_of_mem _ (List.mem_cons_of_mem _ (List.mem_cons_of_mem _ (List.mem_cons_of_mem _ (List.mem_append_left _ hq)))))
    refine ⟨h', tk', news ++ (add ++ add2), rfl, F₂, ?_, ?_, InvD.snoc o1 o2n hl hD hd hp'⟩
    · rw [← List.append_assoc]; exact N₂
    · rw [← List.append_assoc]
      intro p hp
      rcases List.mem_append.mp hp with hp | hp
      · exact off' p hp
      · exact ⟨o2 p hp _ List.mem_cons_self, o2 p hp _ (List.mem_cons_of_mem _ List.mem_cons_self), o2 p hp _ (List.mem_cons_of_mem _ (List.mem_cons_of_mem _ List.mem_cons_self)), o2 p hp _ (List.mem_cons_of_mem _ (List.mem_cons_of_mem _ (List.mem_cons_of_mem _ List.mem_cons_self)))⟩
  · rintro ys nw D h tk ⟨add, ds, rfl, o1, hl, hp, hD⟩ F' N' o'
    exact fin D ys ds add h tk hl hp hD o1 F' N' o'
end
end Mine
namespace Mine
open PySem PySem.W PySem.Spec PySem.Calls PyProof.Rows PyProof.Rows.LCg
theorem allLt_mem {D : Addr} : ∀ {l : List (Addr × Obj)}, AllLt D l → ∀ p ∈ l, p.1 < D
  | [], _, _, h => nomatch h
  | _ :: _, ⟨h, r⟩, p, hp => by
    rcases List.mem_cons.mp hp with rfl | hp
    · exact h
    · exact allLt_mem r p hp
theorem allLt_ne {D : Addr} {l base : List (Addr × Obj)} (h : AllLt D l) (hs : ∀ p ∈ base, p ∈ l) : ∀ q ∈ base, D ≠ q.1 := fun q hq => Ne.symm (Nat.ne_of_lt (allLt_mem h q (hs q hq)))
theorem made_pair {h₀ : Heap} {L D : Addr} {m : Str → Option Value} {s : Shared} {base l tl add : List (Addr × Obj)} {Pr : Nat → List Dat → Prop} {i : Nat} {ds : List Dat} {h' : Heap} {tk n : Nat} {a b : Int} {ta tb : Tok}
    (F : Fr h₀ L h' m) (N : News h₀ L h' ((D, ({ cls := .type "tuple", data := .seq #[.int a ta, .int b tb] n } : Obj)) :: l)) (hl : AllLt D l) (hs : ∀ p ∈ base, p ∈ l) (hp : Pr (i + 1) (ds ++ [Dat.tuple [.int a, .int b]])) :
    Made h₀ L m s base (fun y add2 => ∃ d, DatIn ((tl ++ add) ++ add2) y d ∧ Pr (i + 1) (ds ++ [d])) (.ref D) { s with heap := h', toks := tk } := by
  refine Made.intro [(D, { cls := .type "tuple", data := .seq #[.int a ta, .int b tb] n })] F N ?_ ?_ ⟨_, ?_, hp⟩
  · intro p hp
    rcases List.mem_append.mp hp with hp | hp
    · exact List.mem_cons_of_mem _ (hs p hp)
    · rw [List.mem_singleton.mp hp]; exact List.mem_cons_self
  · intro p hp q hq
    rw [List.mem_singleton.mp hp]
    exact allLt_ne hl hs q hq
  · exact DatIn.tuple (vs := [.int a ta, .int b tb]) (List.mem_append_right _ (List.mem_singleton.mpr rfl)) (.cons (.int _ _) (.cons (.int _ _) .nil))
end Mine

set_option maxRecDepth 100000
namespace Mine
open PySem PySem.W PySem.Spec PySem.Calls PyProof.Rows PyProof.Rows.LCg
def cell3 (ns : List Int) (i o : Int) : Int := ns.getD i.toNat o
theorem rk_bnd (x y : Int) : 0 ≤ (x.fmod 4 + 1) * y.fmod 6 ∧ (x.fmod 4 + 1) * y.fmod 6 ≤ 20 := by
  have h1 := fmod_lo x (n := 4) (by decide)
  have h2 := fmod_hi x (n := 4) (by decide)
  have h3 := fmod_lo y (n := 6) (by decide)
  have h4 := fmod_hi y (n := 6) (by decide)
  refine ⟨Int.mul_nonneg (by omega) h3, ?_⟩
  exact Int.le_trans (Int.mul_le_mul_of_nonneg_right (b := 4) (by omega) h3) (by omega)
theorem rk_small (x y : Int) : Builtin.Range.small 0 ((x.fmod 4 + 1) * y.fmod 6) 1 = true := by
  have := rk_bnd x y
  exact small_one (by omega) (by omega) (by omega) (by omega)
theorem rk_size (x y : Int) : (((x.fmod 4 + 1) * y.fmod 6) - 0).toNat ≤ sizeLine := by
  have := rk_bnd x y
  rw [sizeLine_eq]
  omega
def PrPair (_ : Nat) (ds : List Dat) : Prop := ∀ d ∈ ds, ∃ a b, d = Dat.tuple [.int a, .int b]
theorem pair_snoc {i j : Nat} {ds : List Dat} {a b : Int} (h : PrPair i ds) : PrPair j (ds ++ [Dat.tuple [.int a, .int b]]) := fun d hd => by
  rcases List.mem_append.mp hd with hd | hd
  · exact h d hd
  · exact ⟨a, b, List.mem_singleton.mp hd⟩
theorem own_of {add news : List (Addr × Obj)} (h : ∀ p ∈ add, ∀ q ∈ news, p.1 ≠ q.1) : OwnOff add (news.map (·.1)) := fun p hp b hb => by
  obtain ⟨q, hq, rfl⟩ := List.mem_map.mp hb
  exact h p hp q hq
/-- a datum that is a pair of ints -/
def IsPair (d : Dat) : Prop := ∃ a b, d = Dat.tuple [.int a, .int b]
theorem pairs_fun {n : Nat} {ds : List Dat} (hl : ds.length = n) (hp : PrPair n ds) : ∃ g : Nat → Dat, ds = (List.range n).map g ∧ ∀ k, IsPair (g k) := by
  refine ⟨fun k => ds.getD k (Dat.tuple [.int 0, .int 0]), ?_, fun k => ?_⟩
  · apply List.ext_getElem?
    intro k
    by_cases hk : k < n
    · simp [hl, hk]
    · rw [List.getElem?_eq_none (by omega), List.getElem?_eq_none (by simp; omega)]
  · by_cases hk : k < ds.length
    · have e : ds.getD k (Dat.tuple [.int 0, .int 0]) = ds[k] := by simp [hk]
      show IsPair (ds.getD k _)
      rw [e]
      exact hp _ (List.getElem_mem hk)
    · exact ⟨0, 0, by simp [Nat.not_lt.mp hk]⟩

/-- the table's data -/
def tabD (f : Nat → Nat → Dat) (r k : Nat) : List Dat := (List.range r).map fun i => Dat.list ((List.range k).map (f i))
def rowsG (g : Nat → Dat) (k i j : Nat) : Dat := g (i * k + j)
theorem rk_nat (x y : Int) : (((x.fmod 4 + 1) * y.fmod 6) - 0).toNat = ((x.fmod 4).toNat + 1) * (y.fmod 6).toNat := by
  have h1 := fmod_lo x (n := 4) (by decide)
  have h3 := fmod_lo y (n := 6) (by decide)
  obtain ⟨a, ha⟩ := Int.eq_ofNat_of_zero_le h1
  obtain ⟨b, hb⟩ := Int.eq_ofNat_of_zero_le h3
  rw [ha, hb, Int.sub_zero]
  have : ((a : Int) + 1) * (b : Int) = (((a + 1) * b : Nat) : Int) := by push_cast; rfl
  rw [this, Int.toNat_natCast, Int.toNat_natCast, Int.toNat_natCast]
theorem f4 (x : Int) : (((x.fmod 4).toNat : Nat) : Int) = x.fmod 4 := Int.toNat_of_nonneg (fmod_lo x (by decide))
theorem f6 (y : Int) : (((y.fmod 6).toNat : Nat) : Int) = y.fmod 6 := Int.toNat_of_nonneg (fmod_lo y (by decide))

theorem pick_row (x y : Int) (g : Nat → Dat) (i : Nat) (hi : i < (x.fmod 4 - 0).toNat) :
    pickD ((List.range (((x.fmod 4 + 1) * y.fmod 6) - 0).toNat).map g) (some ((0 + (i : Int)) * y.fmod 6)) (some ((0 + (i : Int)) * y.fmod 6 + y.fmod 6)) none = (List.range (y.fmod 6).toNat).map (rowsG g (y.fmod 6).toNat i) := by
  rw [rk_nat, ← f6 y]
  rw [Int.sub_zero] at hi
  generalize (x.fmod 4).toNat = r at hi
  generalize (y.fmod 6).toNat = k
  simp only [Int.toNat_natCast]
  have e1 : (0 + (i : Int)) * (k : Int) = ((i * k : Nat) : Int) := by push_cast; rw [Int.zero_add]
  have hle : (i + 1) * k ≤ (r + 1) * k := Nat.mul_le_mul_right k (by omega)
  rw [Nat.add_mul, Nat.one_mul] at hle
  have e2 : ((i * k : Nat) : Int) + (k : Int) = ((i * k + k : Nat) : Int) := by push_cast; rfl
  rw [e1, e2]
  exact pick_run' g ((r + 1) * k) (i * k) (i * k + k) k rfl hle _ _ (clipD_nat _ _ (by omega)) (clipD_nat _ _ hle)
theorem pick_want (x y : Int) (g : Nat → Dat) (j : Nat) (hj : j < (y.fmod 6 - 0).toNat) :
    pickD ((List.range (((x.fmod 4 + 1) * y.fmod 6) - 0).toNat).map g) (some (0 + (j : Int))) (some (x.fmod 4 * y.fmod 6)) (some (y.fmod 6)) = (List.range (x.fmod 4).toNat).map fun i => rowsG g (y.fmod 6).toNat i j := by
  rw [rk_nat, ← f6 y, ← f4 x]
  rw [Int.sub_zero] at hj
  generalize (x.fmod 4).toNat = r
  generalize (y.fmod 6).toNat = k at hj
  simp only [Int.toNat_natCast, Int.zero_add]
  have hle : r * k ≤ (r + 1) * k := Nat.mul_le_mul_right k (by omega)
  have e1 : (r : Int) * (k : Int) = ((r * k : Nat) : Int) := by push_cast; rfl
  rw [e1]
  exact pick_step g r k ((r + 1) * k) j hj hle _ (clipD_nat _ _ hle)
theorem pick_last (x y : Int) (g : Nat → Dat) :
    pickD ((List.range (((x.fmod 4 + 1) * y.fmod 6) - 0).toNat).map g) (some (x.fmod 4 * y.fmod 6)) none none = (List.range (y.fmod 6).toNat).map (rowsG g (y.fmod 6).toNat (x.fmod 4).toNat) := by
  rw [rk_nat, ← f6 y, ← f4 x]
  generalize (x.fmod 4).toNat = r
  generalize (y.fmod 6).toNat = k
  simp only [Int.toNat_natCast]
  have e1 : (r : Int) * (k : Int) = ((r * k : Nat) : Int) := by push_cast; rfl
  have e2 : r * k + k = (r + 1) * k := by rw [Nat.add_mul, Nat.one_mul]
  rw [e1]
  exact pick_run' g ((r + 1) * k) (r * k) ((r + 1) * k) k e2 (Nat.le_refl _) _ _ (clipD_nat _ _ (by omega)) rfl
theorem pick_longer (x y : Int) (g : Nat → Dat) (j : Nat) (hj : j < (y.fmod 6 - 0).toNat) :
    pickD ((List.range (((x.fmod 4 + 1) * y.fmod 6) - 0).toNat).map g) (some (0 + (j : Int))) none (some (y.fmod 6)) = (List.range ((x.fmod 4).toNat + 1)).map fun i => rowsG g (y.fmod 6).toNat i j := by
  rw [rk_nat, ← f6 y, ← f4 x]
  rw [Int.sub_zero] at hj
  generalize (x.fmod 4).toNat = r
  generalize (y.fmod 6).toNat = k at hj
  simp only [Int.toNat_natCast, Int.zero_add]
  exact pick_step g (r + 1) k ((r + 1) * k) j hj (Nat.le_refl _) _ rfl

/-- the rows so far -/
def PrTab (f : Nat → Nat → Dat) (k i : Nat) (ds : List Dat) : Prop := ds = tabD f i k
theorem tab_snoc {f : Nat → Nat → Dat} {k i : Nat} {ds es : List Dat} (h : PrTab f k i ds) (he : es = (List.range k).map (f i)) : PrTab f k (i + 1) (ds ++ [Dat.list es]) := by
  unfold PrTab tabD at *
  rw [h, he, List.range_succ, List.map_append]
  rfl
theorem tab_nil (f : Nat → Nat → Dat) (k : Nat) : PrTab f k 0 [] := rfl
theorem range_small {b : Int} (h0 : 0 ≤ b) (h1 : b < 2 ^ 62) : Builtin.Range.small 0 b 1 = true := small_one (by omega) (by omega) (by omega) h1
theorem range_size {b : Int} (h1 : b < 2 ^ 20) : (b - 0).toNat ≤ sizeLine := by rw [sizeLine_eq]; omega

theorem made_list {h₀ : Heap} {L D : Addr} {m : Str → Option Value} {s : Shared} {base l tl add : List (Addr × Obj)} {Pr : Nat → List Dat → Prop} {i : Nat} {ds es : List Dat} {zs : List Value} {h' : Heap} {tk n : Nat}
    (F : Fr h₀ L h' m) (N : News h₀ L h' ((D, listOf zs.toArray n) :: l)) (hl : ∀ p ∈ l, p.1 < D) (hs : ∀ p ∈ base, p ∈ l) (hz : DatAll tl zs es) (hp : Pr (i + 1) (ds ++ [Dat.list es])) :
    Made h₀ L m s base (fun y add2 => ∃ d, DatIn ((tl ++ add) ++ add2) y d ∧ Pr (i + 1) (ds ++ [d])) (.ref D) { s with heap := h', toks := tk } := by
  refine Made.intro [(D, listOf zs.toArray n)] F N ?_ ?_ ⟨_, ?_, hp⟩
  · intro p hp
    rcases List.mem_append.mp hp with hp | hp
    · exact List.mem_cons_of_mem _ (hs p hp)
    · rw [List.mem_singleton.mp hp]; exact List.mem_cons_self
  · intro p hp q hq
    rw [List.mem_singleton.mp hp]
    exact Ne.symm (Nat.ne_of_lt (hl q (hs q hq)))
  · exact DatIn.list (List.mem_append_right _ (List.mem_singleton.mpr rfl)) (hz.mono fun p hp => List.mem_append_left _ (List.mem_append_left _ hp))
theorem datIn_list {news : List (Addr × Obj)} {v : Value} {es : List Dat} (h : DatIn news v (Dat.list es)) : ∃ a vs n, v = .ref a ∧ (a, listOf vs.toArray n) ∈ news ∧ DatAll news vs es := by
  cases h with
  | list hm hd => exact ⟨_, _, _, rfl, hm, hd⟩
theorem tab_get {f : Nat → Nat → Dat} {r k i : Nat} {e : Dat} (h : (tabD f r k)[i]? = some e) : i < r ∧ e = Dat.list ((List.range k).map (f i)) := by
  unfold tabD at h
  by_cases hi : i < r
  · rw [List.getElem?_map, List.getElem?_range hi] at h
    exact ⟨hi, (Option.some.inj h).symm⟩
  · rw [List.getElem?_eq_none (by simpa using hi)] at h; cases h
theorem tab_length (f : Nat → Nat → Dat) (r k : Nat) : (tabD f r k).length = r := by simp [tabD]

section
variable {prog : Program} {w : World} {A : Around} {E : Value → Shared → Prop} {s : Shared} {h₀ : Heap} {L : Addr} {m : Str → Option Value} {env : Env} {news : List (Addr × Obj)}
theorem ListComp_cell' {elt iter : Expr} {x : Str} {px : Pos} {scope : Scope} {cl : List (Str × Addr)} {pos : Pos} {Q : Value → Shared → Prop} (_F₀ : Fr h₀ L s.heap m)
    (hclos : closureFor scope env = pure cl) (hkind : scope.kind = .function)
    (hnames : ∀ y ∈ scope.names, y.2 = .local → scope.names.lookup y.1 = some .local) (hx : scope.names.lookup x = some .cell)
    (hcells : ∀ k, cellsFrom k scope.names cl = (x, k) :: cl) (hpush : ∀ h, pushCells h scope.names = h.push { cls := .type "cell", data := .cell none })
    (h : wpAny (model prog w) A (eval iter env) (CellSrc prog w A h₀ L m env elt x scope cl Q) E s)
    (hs : ∀ x, foldedSetIterable iter env x = pure x := by intro _; rfl) :
    wpAny (model prog w) A (eval (.ListComp elt [⟨.Name x px, iter, [], 0⟩] scope pos) env) Q E s := ListComp_cell hclos hkind hnames hx hcells hpush h hs
theorem len_of {tl : List (Addr × Obj)} {vs : List Value} {ds : List Dat} {n : Nat} (h : DatAll tl vs ds) (hn : ds.length = n) (hs : n ≤ sizeLine) : vs.length ≤ sizeLine := by rw [h.length, hn]; exact hs
theorem len_flat {tl : List (Addr × Obj)} {vs : List Value} {g : Nat → Dat} {x y : Int} (h : DatAll tl vs ((List.range (((x.fmod 4 + 1) * y.fmod 6) - 0).toNat).map g)) : vs.length ≤ sizeLine := len_of h (by simp) (rk_size x y)
/-- what the table of `flat` is said to hold -/
abbrev FlatIs (tl : List (Addr × Obj)) (vs : List Value) (x y : Int) (g : Nat → Dat) : Prop := DatAll tl vs ((List.range (((x.fmod 4 + 1) * y.fmod 6) - 0).toNat).map g)
theorem fs4 (x : Int) : Builtin.Range.small 0 (x.fmod 4) 1 = true := by
  have h1 := fmod_lo x (n := 4) (by decide)
  have h2 := fmod_hi x (n := 4) (by decide)
  exact range_small h1 (by omega)
theorem fs6 (x : Int) : Builtin.Range.small 0 (x.fmod 6) 1 = true := by
  have h1 := fmod_lo x (n := 6) (by decide)
  have h2 := fmod_hi x (n := 6) (by decide)
  exact range_small h1 (by omega)
theorem fz4 (x : Int) : (x.fmod 4 - 0).toNat ≤ sizeLine := by
  have h2 := fmod_hi x (n := 4) (by decide)
  exact range_size (by omega)
theorem fz6 (x : Int) : (x.fmod 6 - 0).toNat ≤ sizeLine := by
  have h2 := fmod_hi x (n := 6) (by decide)
  exact range_size (by omega)

theorem src_m {elt : Expr} {xn : Str} {scope : Scope} {cl : List (Str × Addr)} {Fin : Shared → List Value → List (Addr × Obj) → Prop} {r : Addr} {t u v : Tok} {s₁ : Shared} {tl : List (Addr × Obj)} {vs : List Value} {x y : Int} {g : Nat → Dat}
    (_hF : FlatIs tl vs x y g) (hh : A.handled = none) (F : Fr h₀ L s₁.heap m) (N : News h₀ L s₁.heap news) (hr : IsRange s₁.heap r 0 (x.fmod 4) 1 t u v)
    (turn : ∀ i ys ds add t I oI C oC D m₂ h tk (E' : Value → Shared → Prop), i < (x.fmod 4 - 0).toNat → ds.length = i → PrTab (rowsG g (y.fmod 6).toNat) (y.fmod 6).toNat i ds → DatAll (tl ++ add) ys ds → NsObj oC m₂ → m₂ xn = some (.int (0 + (i : Int)) t) → Fr h₀ L h m → News h₀ L h ((I, oI) :: (C, oC) :: (D, lst ys) :: (news ++ add)) →
      wpAny (model prog w) A (eval elt (compEnvC scope cl C env)) (Made h₀ L m { s₁ with heap := h, toks := tk } ((I, oI) :: (C, oC) :: (D, lst ys) :: (news ++ add)) (fun y' add2 => ∃ d, DatIn ((tl ++ add) ++ add2) y' d ∧ PrTab (rowsG g (y.fmod 6).toNat) (y.fmod 6).toNat (i + 1) (ds ++ [d]))) E' { s₁ with heap := h, toks := tk })
    (fin : ∀ g' ys add, DatAll (tl ++ add) ys (tabD (rowsG g (y.fmod 6).toNat) (x.fmod 4).toNat (y.fmod 6).toNat) → (∀ p ∈ add, ∀ q ∈ news, p.1 ≠ q.1) → Fin { s₁ with heap := g' } ys (news ++ add)) :
    CompSrc prog w A h₀ L m env elt xn scope cl Fin (.ref r) s₁ :=
  src_range (PrTab (rowsG g (y.fmod 6).toNat) (y.fmod 6).toNat) tl hh F N hr (fs4 x) (rangeSize_nat _ _) (fz4 x) (tab_nil _ _) turn
    fun g' ys ds add _ hp hD hO => fin g' ys add (by rw [PrTab] at hp; rw [hp, Int.sub_zero] at hD; exact hD) hO
theorem src_want {elt : Expr} {xn : Str} {scope : Scope} {cl : List (Str × Addr)} {Fin : Shared → List Value → List (Addr × Obj) → Prop} {r : Addr} {t u v : Tok} {s₁ : Shared} {tl : List (Addr × Obj)} {vs : List Value} {x y : Int} {g : Nat → Dat} (ρ : Nat)
    (_hF : FlatIs tl vs x y g) (hh : A.handled = none) (F : Fr h₀ L s₁.heap m) (N : News h₀ L s₁.heap news) (hr : IsRange s₁.heap r 0 (y.fmod 6) 1 t u v)
    (turn : ∀ i ys ds add t I oI C oC D m₂ h tk (E' : Value → Shared → Prop), i < (y.fmod 6 - 0).toNat → ds.length = i → PrTab (fun j i => rowsG g (y.fmod 6).toNat i j) ρ i ds → DatAll (tl ++ add) ys ds → NsObj oC m₂ → m₂ xn = some (.int (0 + (i : Int)) t) → Fr h₀ L h m → News h₀ L h ((I, oI) :: (C, oC) :: (D, lst ys) :: (news ++ add)) →
      wpAny (model prog w) A (eval elt (compEnvC scope cl C env)) (Made h₀ L m { s₁ with heap := h, toks := tk } ((I, oI) :: (C, oC) :: (D, lst ys) :: (news ++ add)) (fun y' add2 => ∃ d, DatIn ((tl ++ add) ++ add2) y' d ∧ PrTab (fun j i => rowsG g (y.fmod 6).toNat i j) ρ (i + 1) (ds ++ [d]))) E' { s₁ with heap := h, toks := tk })
    (fin : ∀ g' ys add, DatAll (tl ++ add) ys (tabD (fun j i => rowsG g (y.fmod 6).toNat i j) (y.fmod 6).toNat ρ) → (∀ p ∈ add, ∀ q ∈ news, p.1 ≠ q.1) → Fin { s₁ with heap := g' } ys (news ++ add)) :
    CompSrc prog w A h₀ L m env elt xn scope cl Fin (.ref r) s₁ :=
  src_range (PrTab (fun j i => rowsG g (y.fmod 6).toNat i j) ρ) tl hh F N hr (fs6 y) (rangeSize_nat _ _) (fz6 y) (tab_nil _ _) turn
    fun g' ys ds add _ hp hD hO => fin g' ys add (by rw [PrTab] at hp; rw [hp, Int.sub_zero] at hD; exact hD) hO
theorem src_kept {elt : Expr} {xn : Str} {scope : Scope} {cl : List (Str × Addr)} {Fin : Shared → List Value → List (Addr × Obj) → Prop} {ax : Addr} {vs : List Value} {k : Nat} {s₁ : Shared} {tl : List (Addr × Obj)} {f : Nat → Nat → Dat} {ρ κ : Nat}
    (hh : A.handled = none) (F : Fr h₀ L s₁.heap m) (N : News h₀ L s₁.heap news) (hm : (ax, ({ cls := .type "list", data := .seq vs.toArray k } : Obj)) ∈ news) (hvs : DatAll tl vs (tabD f ρ κ)) (hsz : ρ ≤ sizeLine)
    (turn : ∀ i a es k' ys ds add I oI C oC D m₂ h tk (E' : Value → Shared → Prop), (a, listOf (List.toArray es) k') ∈ tl → DatAll tl es ((List.range κ).map (f i)) → ds.length = i → PrTab f κ i ds → DatAll (tl ++ add) ys ds → NsObj oC m₂ → m₂ xn = some (.ref a) → Fr h₀ L h m → News h₀ L h ((I, oI) :: (C, oC) :: (D, lst ys) :: (news ++ add)) →
      wpAny (model prog w) A (eval elt (compEnvC scope cl C env)) (Made h₀ L m { s₁ with heap := h, toks := tk } ((I, oI) :: (C, oC) :: (D, lst ys) :: (news ++ add)) (fun y add2 => ∃ d, DatIn ((tl ++ add) ++ add2) y d ∧ PrTab f κ (i + 1) (ds ++ [d]))) E' { s₁ with heap := h, toks := tk })
    (fin : ∀ g' ys add, DatAll (tl ++ add) ys (tabD f ρ κ) → (∀ p ∈ add, ∀ q ∈ news, p.1 ≠ q.1) → Fin { s₁ with heap := g' } ys (news ++ add)) :
    CompSrc prog w A h₀ L m env elt xn scope cl Fin (.ref ax) s₁ :=
  src_list (PrTab f κ) tl hh F N hm hvs (len_of hvs (tab_length _ _ _) hsz) (tab_nil _ _)
    (fun i v e ys ds add I oI C oC D m₂ h tk E' he hv hl hp hD hC hx F' N' => by
      obtain ⟨_, rfl⟩ := tab_get he
      obtain ⟨a, es, n, rfl, hmem, hes⟩ := datIn_list hv
      exact turn i a es n ys ds add I oI C oC D m₂ h tk E' hmem hes hl hp hD hC hx F' N')
    fun g' ys ds add _ hp hD hO => fin g' ys add (by rw [PrTab, tab_length] at hp; rw [hp] at hD; exact hD) hO

/-- the items of one row so far -/
def PrRow (f : Nat → Dat) (i : Nat) (ds : List Dat) : Prop := ds = (List.range i).map f
theorem row_snoc {f : Nat → Dat} {i : Nat} {ds : List Dat} {d : Dat} (h : PrRow f i ds) (hd : d = f i) : PrRow f (i + 1) (ds ++ [d]) := by
  unfold PrRow at *
  rw [h, hd, List.range_succ, List.map_append]
  rfl
theorem src_trO {elt : Expr} {xn : Str} {scope : Scope} {cl : List (Str × Addr)} {Q : Value → Shared → Prop} {r : Addr} {b : Int} {t u v : Tok} {s₁ : Shared} {tl : List (Addr × Obj)} {vs : List Value} {f : Nat → Nat → Dat} {ρ κ : Nat}
    (_hM : DatAll tl vs (tabD f ρ κ)) (hh : A.handled = none) (F : Fr h₀ L s₁.heap m) (N : News h₀ L s₁.heap news) (hr : IsRange s₁.heap r 0 b 1 t u v) (hb : b = (κ : Int)) (hκ : κ < 8)
    (turn : ∀ i ys ds add t I oI C oC c oc D h tk (E' : Value → Shared → Prop), i < κ → ds.length = i → PrTab (fun j i => f i j) ρ i ds → DatAll (tl ++ add) ys ds → oc.data = .cell (some (.int (0 + (i : Int)) t)) → Fr h₀ L h m → News h₀ L h ((I, oI) :: (C, oC) :: (c, oc) :: (D, lst ys) :: (news ++ add)) →
      wpAny (model prog w) A (eval elt (compEnvC scope ((xn, c) :: cl) C env)) (Made h₀ L m { s₁ with heap := h, toks := tk } ((I, oI) :: (C, oC) :: (c, oc) :: (D, lst ys) :: (news ++ add)) (fun y add2 => ∃ d, DatIn ((tl ++ add) ++ add2) y d ∧ PrTab (fun j i => f i j) ρ (i + 1) (ds ++ [d]))) E' { s₁ with heap := h, toks := tk })
    (fin : ∀ D ys add h tk, DatAll (tl ++ add) ys (tabD (fun j i => f i j) κ ρ) → (∀ p ∈ add, ∀ q ∈ news, p.1 ≠ q.1) → Fr h₀ L h m → News h₀ L h ((D, lst ys) :: (news ++ add)) → Off1 D (news ++ add) → Q (.ref D) { s₁ with heap := h, toks := tk }) :
    CellSrc prog w A h₀ L m env elt xn scope cl Q (.ref r) s₁ := by
  subst hb
  have e : ((κ : Int) - 0).toNat = κ := by omega
  exact src_cell (n := κ) (PrTab (fun j i => f i j) ρ) tl hh F N hr (range_small (by omega) (by omega)) (by rw [rangeSize_nat, e]) (by rw [sizeLine_eq]; omega) (tab_nil _ _) turn
    fun D ys ds add h tk _ hp hD hO F' N' o' => fin D ys add h tk (by rw [PrTab] at hp; rw [hp] at hD; exact hD) hO F' N' o'
theorem src_trI {elt : Expr} {xn : Str} {scope : Scope} {cl : List (Str × Addr)} {Fin : Shared → List Value → List (Addr × Obj) → Prop} {r : Addr} {b : Int} {t u v : Tok} {s₁ : Shared} {tl : List (Addr × Obj)} {vs : List Value} {f : Nat → Nat → Dat} {ρ κ : Nat} (j : Nat)
    (hM : DatAll tl vs (tabD f ρ κ)) (hh : A.handled = none) (F : Fr h₀ L s₁.heap m) (N : News h₀ L s₁.heap news) (hr : IsRange s₁.heap r 0 b 1 t u v) (hb : b = (vs.length : Int)) (hρ : ρ < 8)
    (turn : ∀ i ys ds add t I oI C oC D m₂ h tk (E' : Value → Shared → Prop), i < ρ → ds.length = i → PrRow (fun i => f i j) i ds → DatAll (tl ++ add) ys ds → NsObj oC m₂ → m₂ xn = some (.int (0 + (i : Int)) t) → Fr h₀ L h m → News h₀ L h ((I, oI) :: (C, oC) :: (D, lst ys) :: (news ++ add)) →
      wpAny (model prog w) A (eval elt (compEnvC scope cl C env)) (Made h₀ L m { s₁ with heap := h, toks := tk } ((I, oI) :: (C, oC) :: (D, lst ys) :: (news ++ add)) (fun y add2 => ∃ d, DatIn ((tl ++ add) ++ add2) y d ∧ PrRow (fun i => f i j) (i + 1) (ds ++ [d]))) E' { s₁ with heap := h, toks := tk })
    (fin : ∀ g' ys add, DatAll (tl ++ add) ys ((List.range ρ).map fun i => f i j) → (∀ p ∈ add, ∀ q ∈ news, p.1 ≠ q.1) → Fin { s₁ with heap := g' } ys (news ++ add)) :
    CompSrc prog w A h₀ L m env elt xn scope cl Fin (.ref r) s₁ := by
  rw [hM.length, tab_length] at hb
  subst hb
  have e : ((ρ : Int) - 0).toNat = ρ := by omega
  exact src_range (n := ρ) (PrRow fun i => f i j) tl hh F N hr (range_small (by omega) (by omega)) (by rw [rangeSize_nat, e]) (by rw [sizeLine_eq]; omega) rfl turn
    fun g' ys ds add _ hp hD hO => fin g' ys add (by rw [PrRow] at hp; rw [hp] at hD; exact hD) hO
/-- nothing is made: the item of a row -/
theorem made_item {h₀ : Heap} {L : Addr} {m : Str → Option Value} {s : Shared} {base all tl add : List (Addr × Obj)} {Pr : Nat → List Dat → Prop} {i : Nat} {ds : List Dat} {d : Dat} {y : Value} {h' : Heap} {tk : Nat}
    (F : Fr h₀ L h' m) (N : News h₀ L h' all) (hs : ∀ p ∈ base, p ∈ all) (hd : DatIn tl y d) (hp : Pr (i + 1) (ds ++ [d])) :
    Made h₀ L m s base (fun y add2 => ∃ d, DatIn ((tl ++ add) ++ add2) y d ∧ Pr (i + 1) (ds ++ [d])) y { s with heap := h', toks := tk } :=
  Made.intro [] F N (by rw [List.append_nil]; exact hs) (fun _ h => nomatch h) ⟨d, hd.mono fun p hp => List.mem_append_left _ (List.mem_append_left _ hp), hp⟩
/-- a row that an inner comprehension has made -/
theorem made_inner {h₀ : Heap} {L D : Addr} {m : Str → Option Value} {s : Shared} {base tl add add3 : List (Addr × Obj)} {Pr : Nat → List Dat → Prop} {i : Nat} {ds es : List Dat} {zs : List Value} {h' : Heap} {tk : Nat}
    (F : Fr h₀ L h' m) (N : News h₀ L h' ((D, lst zs) :: (base ++ add3))) (o1 : Off1 D (base ++ add3)) (o3 : ∀ p ∈ add3, ∀ q ∈ base, p.1 ≠ q.1) (hz : DatAll (tl ++ add3) zs es) (hp : Pr (i + 1) (ds ++ [Dat.list es])) :
    Made h₀ L m s base (fun y add2 => ∃ d, DatIn ((tl ++ add) ++ add2) y d ∧ Pr (i + 1) (ds ++ [d])) (.ref D) { s with heap := h', toks := tk } := by
  have off1 : ∀ {l : List (Addr × Obj)}, Off1 D l → ∀ p ∈ l, p.1 ≠ D := by
    intro l
    induction l with
    | nil => intro _ p hp; nomatch hp
    | cons a r ih =>
      intro h p hp
      rcases List.mem_cons.mp hp with rfl | hp
      · exact h.1
      · exact ih h.2 p hp
  refine Made.intro ((D, lst zs) :: add3) F N ?_ ?_ ⟨_, ?_, hp⟩
  · intro p hp
    rcases List.mem_append.mp hp with hp | hp
    · exact List.mem_cons_of_mem _ (List.mem_append_left _ hp)
    · rcases List.mem_cons.mp hp with rfl | hp
      · exact List.mem_cons_self
      · exact List.mem_cons_of_mem _ (List.mem_append_right _ hp)
  · intro p hp q hq
    rcases List.mem_cons.mp hp with rfl | hp
    · exact Ne.symm (off1 o1 q (List.mem_append_left _ hq))
    · exact o3 p hp q hq
  · refine DatIn.list (vs := zs) (n := zs.length) (List.mem_append_right _ List.mem_cons_self) (hz.mono fun p hp => ?_)
    rcases List.mem_append.mp hp with hp | hp
    · exact List.mem_append_left _ (List.mem_append_left _ hp)
    · exact List.mem_append_right _ (List.mem_cons_of_mem _ hp)
end

section
variable {prog : Program} {w : World} {A : Around} {h₀ : Heap} {L : Addr} {m : Str → Option Value} {env : Env} {news : List (Addr × Obj)}
def src_want1 {elt : Expr} {xn : Str} {scope : Scope} {cl : List (Str × Addr)} {Fin : Shared → List Value → List (Addr × Obj) → Prop} {r : Addr} {t u v : Tok} {s₁ : Shared} {tl : List (Addr × Obj)} {vs : List Value} {x y : Int} {g : Nat → Dat}
    (hF : FlatIs tl vs x y g) (hh : A.handled = none) (F : Fr h₀ L s₁.heap m) (N : News h₀ L s₁.heap news) (hr : IsRange s₁.heap r 0 (y.fmod 6) 1 t u v) :=
  src_want (prog := prog) (w := w) (A := A) (h₀ := h₀) (L := L) (m := m) (env := env) (news := news) (elt := elt) (xn := xn) (scope := scope) (cl := cl) (Fin := Fin) (r := r) (s₁ := s₁) (x.fmod 4).toNat hF hh F N hr
def src_want2 {elt : Expr} {xn : Str} {scope : Scope} {cl : List (Str × Addr)} {Fin : Shared → List Value → List (Addr × Obj) → Prop} {r : Addr} {t u v : Tok} {s₁ : Shared} {tl : List (Addr × Obj)} {vs : List Value} {x y : Int} {g : Nat → Dat}
    (hF : FlatIs tl vs x y g) (hh : A.handled = none) (F : Fr h₀ L s₁.heap m) (N : News h₀ L s₁.heap news) (hr : IsRange s₁.heap r 0 (y.fmod 6) 1 t u v) :=
  src_want (prog := prog) (w := w) (A := A) (h₀ := h₀) (L := L) (m := m) (env := env) (news := news) (elt := elt) (xn := xn) (scope := scope) (cl := cl) (Fin := Fin) (r := r) (s₁ := s₁) ((x.fmod 4).toNat + 1) hF hh F N hr
theorem step_ne {y : Int} {j : Nat} (h : j < (y.fmod 6 - 0).toNat) : some (y.fmod 6) ≠ some 0 := by
  intro e
  have e' := Option.some.inj e
  rw [e'] at h
  exact absurd h (by simp)
theorem sz4 (x : Int) : (x.fmod 4).toNat ≤ sizeLine := by
  have h2 := fmod_hi x (n := 4) (by decide)
  rw [sizeLine_eq]; omega
theorem off1_all {D : Addr} : ∀ {l : List (Addr × Obj)}, Off1 D l → ∀ p ∈ l, p.1 ≠ D
  | [], _, _, h => nomatch h
  | _ :: _, h, p, hp => by
    rcases List.mem_cons.mp hp with rfl | hp
    · exact h.1
    · exact off1_all h.2 p hp
end
end Mine
namespace Mine
open PySem PySem.W PySem.Spec PySem.Calls PyProof.Rows
theorem len6 {tl : List (Addr × Obj)} {vs : List Value} {f : Nat → Dat} {y : Int} (h : DatAll tl vs ((List.range (y.fmod 6).toNat).map f)) : vs.length ≤ sizeLine := by
  have h2 := fmod_hi y (n := 6) (by decide)
  exact len_of (n := (y.fmod 6).toNat) h (by simp) (by rw [sizeLine_eq]; omega)
end Mine
namespace Mine
open PySem PySem.W PySem.Spec PySem.Calls PyProof.Rows PyProof.Rows.LCg
theorem k8_6 (y : Int) : (y.fmod 6).toNat < 8 := by
  have h2 := fmod_hi y (n := 6) (by decide)
  omega
theorem k8_4 (y : Int) : (y.fmod 4).toNat < 8 := by
  have h2 := fmod_hi y (n := 4) (by decide)
  omega
theorem k8_5 (y : Int) : (y.fmod 4).toNat + 1 < 8 := by
  have h2 := fmod_hi y (n := 4) (by decide)
  omega
section
variable {prog : Program} {w : World} {A : Around} {E : Value → Shared → Prop} {s : Shared} {h₀ : Heap} {L : Addr} {m : Str → Option Value} {env : Env} {news : List (Addr × Obj)}
/-- the table that the def's cell `m` holds -/
structure TabAt (news tl : List (Addr × Obj)) (cm : Addr) (l : Addr) (vs : List Value) (f : Nat → Nat → Dat) (ρ κ : Nat) : Prop where
  cell : ∃ om : Obj, (cm, om) ∈ news ∧ om.data = .cell (some (.ref l))
  list : ∃ nn : Nat, (l, listOf vs.toArray nn) ∈ news
  dat : DatAll tl vs (tabD f ρ κ)
  sub : ∀ p ∈ tl, p ∈ news
theorem TabAt.of {tl : List (Addr × Obj)} {cm l : Addr} {vs : List Value} {f : Nat → Nat → Dat} {ρ κ nn : Nat} {om : Obj} (hc : (cm, om) ∈ news) (hd : om.data = .cell (some (.ref l))) (hl : (l, listOf vs.toArray nn) ∈ news) (hM : DatAll tl vs (tabD f ρ κ)) (hs : ∀ p ∈ tl, p ∈ news) : TabAt news tl cm l vs f ρ κ :=
  ⟨⟨om, hc, hd⟩, ⟨nn, hl⟩, hM, hs⟩
theorem TabAt.more {tl news' : List (Addr × Obj)} {cm l : Addr} {vs : List Value} {f : Nat → Nat → Dat} {ρ κ : Nat} (h : TabAt news tl cm l vs f ρ κ) (hs : ∀ p ∈ news, p ∈ news') : TabAt news' tl cm l vs f ρ κ :=
  ⟨let ⟨o, a, b⟩ := h.cell; ⟨o, hs _ a, b⟩, let ⟨n, a⟩ := h.list; ⟨n, hs _ a⟩, h.dat, fun p hp => hs p (h.sub p hp)⟩

theorem src_trO2 {elt : Expr} {xn ms : Str} {scope : Scope} {cm l : Addr} {Q : Value → Shared → Prop} {r : Addr} {b : Int} {t u v : Tok} {s₁ : Shared} {tl : List (Addr × Obj)} {vs : List Value} {f : Nat → Nat → Dat} {ρ κ : Nat}
    (hT : TabAt news tl cm l vs f ρ κ) (hh : A.handled = none) (F : Fr h₀ L s₁.heap m) (N : News h₀ L s₁.heap news) (hr : IsRange s₁.heap r 0 b 1 t u v) (hb : b = (κ : Int)) (hκ : κ < 8)
    (turn : ∀ i ys ds add t I oI C oC c oc D h tk (E' : Value → Shared → Prop), i < κ → PrTab (fun j i => f i j) ρ i ds → oc.data = .cell (some (.int (0 + (i : Int)) t)) → Fr h₀ L h m → News h₀ L h ((I, oI) :: (C, oC) :: (c, oc) :: (D, lst ys) :: (news ++ add)) → TabAt ((I, oI) :: (C, oC) :: (c, oc) :: (D, lst ys) :: (news ++ add)) tl cm l vs f ρ κ →
      wpAny (model prog w) A (eval elt (compEnvC scope ((xn, c) :: [(ms, cm)]) C env)) (Made h₀ L m { s₁ with heap := h, toks := tk } ((I, oI) :: (C, oC) :: (c, oc) :: (D, lst ys) :: (news ++ add)) (fun y add2 => ∃ d, DatIn ((tl ++ add) ++ add2) y d ∧ PrTab (fun j i => f i j) ρ (i + 1) (ds ++ [d]))) E' { s₁ with heap := h, toks := tk })
    (fin : ∀ D ys add h tk, DatAll (tl ++ add) ys (tabD (fun j i => f i j) κ ρ) → (∀ p ∈ add, ∀ q ∈ news, p.1 ≠ q.1) → Fr h₀ L h m → News h₀ L h ((D, lst ys) :: (news ++ add)) → (∀ p ∈ news ++ add, p.1 ≠ D) → Q (.ref D) { s₁ with heap := h, toks := tk }) :
    CellSrc prog w A h₀ L m env elt xn scope [(ms, cm)] Q (.ref r) s₁ :=
  src_trO hT.dat hh F N hr hb hκ (fun i ys ds add t I oI C oC c oc D h tk E' hi _ hp _ hc F' N' => turn i ys ds add t I oI C oC c oc D h tk E' hi hp hc F' N' (hT.more fun p hp => List.mem_cons_of_mem _ (List.mem_cons_of_mem _ (List.mem_cons_of_mem _ (List.mem_cons_of_mem _ (List.mem_append_left _ hp))))))
    fun D ys add h tk hD hO F' N' o' => fin D ys add h tk hD hO F' N' (off1_all o')

theorem src_trI2 {elt : Expr} {xn ms js : Str} {scope : Scope} {cm c l : Addr} {oc : Obj} {tj : Tok} {j : Nat} {Fin : Shared → List Value → List (Addr × Obj) → Prop} {r : Addr} {b : Int} {t u v : Tok} {s₁ : Shared} {tl : List (Addr × Obj)} {vs : List Value} {f : Nat → Nat → Dat} {ρ κ : Nat}
    (hT : TabAt news tl cm l vs f ρ κ) (_hc : (c, oc) ∈ news) (hcd : oc.data = .cell (some (.int (0 + (j : Int)) tj))) (hh : A.handled = none) (F : Fr h₀ L s₁.heap m) (N : News h₀ L s₁.heap news) (hr : IsRange s₁.heap r 0 b 1 t u v) (hb : b = (vs.length : Int)) (hρ : ρ < 8)
    (turn : ∀ i ys ds add t I oI C oC D m₂ h tk (E' : Value → Shared → Prop), i < ρ → PrRow (fun i => f i j) i ds → NsObj oC m₂ → m₂ xn = some (.int (0 + (i : Int)) t) → Fr h₀ L h m → News h₀ L h ((I, oI) :: (C, oC) :: (D, lst ys) :: (news ++ add)) → TabAt ((I, oI) :: (C, oC) :: (D, lst ys) :: (news ++ add)) tl cm l vs f ρ κ →
      wpAny (model prog w) A (eval elt (compEnvC scope [(ms, cm), (js, c)] C env)) (Made h₀ L m { s₁ with heap := h, toks := tk } ((I, oI) :: (C, oC) :: (D, lst ys) :: (news ++ add)) (fun y add2 => ∃ d, DatIn ((tl ++ add) ++ add2) y d ∧ PrRow (fun i => f i j) (i + 1) (ds ++ [d]))) E' { s₁ with heap := h, toks := tk })
    (fin : ∀ g' ys add, DatAll (tl ++ add) ys ((List.range ρ).map fun i => f i j) → (∀ p ∈ add, ∀ q ∈ news, p.1 ≠ q.1) → Fin { s₁ with heap := g' } ys (news ++ add)) :
    CompSrc prog w A h₀ L m env elt xn scope [(ms, cm), (js, c)] Fin (.ref r) s₁ :=
  have _ := hcd
  src_trI j hT.dat hh F N hr hb hρ (fun i ys ds add t I oI C oC D m₂ h tk E' hi _ hp _ hC hx F' N' => turn i ys ds add t I oI C oC D m₂ h tk E' hi hp hC hx F' N' (hT.more fun p hp => List.mem_cons_of_mem _ (List.mem_cons_of_mem _ (List.mem_cons_of_mem _ (List.mem_append_left _ hp))))) fin

variable {value slice : PySem.Expr} {Q : Value → Shared → Prop}
theorem item_tab {tl : List (Addr × Obj)} {cm l : Addr} {vs : List Value} {f : Nat → Nat → Dat} {ρ κ i : Nat} {u : Tok} (N : News h₀ L s.heap news) (hT : TabAt news tl cm l vs f ρ κ) (hi : i < ρ) (hρ : ρ < 8)
    (h : ∀ a es n, (a, listOf (List.toArray es) n) ∈ news → DatAll tl es ((List.range κ).map (f i)) → Q (.ref a) s)
    (hs : subscripted slice false (.ref l) (.int (0 + (i : Int)) u) = operate [.ref l, .int (0 + (i : Int)) u] (getItem (.ref l) (.int (0 + (i : Int)) u))) :
    wpAny (model prog w) A (subscriptTail value slice (.ref l) (.int (0 + (i : Int)) u)) Q E s := by
  obtain ⟨nn, hl⟩ := hT.list
  have e : (0 + (i : Int)).toNat = i := by omega
  refine item_dat (d := Dat.list ((List.range κ).map (f i))) (N.isList hl) hT.dat (by omega) (by omega) (by rw [e]; simp [tabD, hi]) (fun v _ hd => ?_) hs
  obtain ⟨a, es, n, rfl, hm, he⟩ := datIn_list hd
  exact h a es n (hT.sub _ hm) he
theorem item_row {tl : List (Addr × Obj)} {a : Addr} {es : List Value} {n : Nat} {g : Nat → Dat} {κ j : Nat} {u : Tok} (N : News h₀ L s.heap news) (ha : (a, listOf es.toArray n) ∈ news) (he : DatAll tl es ((List.range κ).map g)) (hj : j < κ) (hκ : κ < 8)
    (h : ∀ y, DatIn tl y (g j) → Q y s)
    (hs : subscripted slice false (.ref a) (.int (0 + (j : Int)) u) = operate [.ref a, .int (0 + (j : Int)) u] (getItem (.ref a) (.int (0 + (j : Int)) u))) :
    wpAny (model prog w) A (subscriptTail value slice (.ref a) (.int (0 + (j : Int)) u)) Q E s := by
  have e : (0 + (j : Int)).toNat = j := by omega
  exact item_dat (N.isList ha) he (by omega) (by omega) (by rw [e]; simp [hj]) (fun v _ hd => h v hd) hs
theorem made_inner2 {h₀ : Heap} {L D : Addr} {m : Str → Option Value} {s : Shared} {base tl add add3 : List (Addr × Obj)} {Pr : Nat → List Dat → Prop} {i : Nat} {ds es : List Dat} {zs : List Value} {h' : Heap} {tk : Nat}
    (F : Fr h₀ L h' m) (N : News h₀ L h' ((D, lst zs) :: (base ++ add3))) (o1 : ∀ p ∈ base ++ add3, p.1 ≠ D) (o3 : ∀ p ∈ add3, ∀ q ∈ base, p.1 ≠ q.1) (hz : DatAll (tl ++ add3) zs es) (hp : Pr (i + 1) (ds ++ [Dat.list es])) :
    Made h₀ L m s base (fun y add2 => ∃ d, DatIn ((tl ++ add) ++ add2) y d ∧ Pr (i + 1) (ds ++ [d])) (.ref D) { s with heap := h', toks := tk } := by
  have mk : ∀ {l : List (Addr × Obj)}, (∀ p ∈ l, p.1 ≠ D) → Off1 D l := by
    intro l
    induction l with
    | nil => intro _; trivial
    | cons a r ih => intro h; exact ⟨h a List.mem_cons_self, ih fun p hp => h p (List.mem_cons_of_mem _ hp)⟩
  exact made_inner F N (mk o1) o3 hz hp
end
end Mine
namespace Mine
open PySem PySem.W PySem.Spec PySem.Calls PyProof.Rows PyProof.Rows.LCg
section
variable {prog : Program} {w : World} {A : Around} {E : Value → Shared → Prop} {s : Shared} {h₀ : Heap} {L : Addr} {m : Str → Option Value} {env : Env} {news : List (Addr × Obj)} {Q : Value → Shared → Prop}
theorem len_tab {tl : List (Addr × Obj)} {cm l : Addr} {vs : List Value} {f : Nat → Nat → Dat} {ρ κ : Nat} (N : News h₀ L s.heap news) (hT : TabAt news tl cm l vs f ρ κ) (hρ : ρ < 8) (h : Q (.int (ρ : Int) (s.toks + 1)) { s with toks := s.toks + 1 + 1 }) :
    wpAny (model prog w) A (call (.builtin "len") [.ref l]) Q E s := by
  obtain ⟨nn, hl⟩ := hT.list
  have e : vs.toArray.size = ρ := by rw [List.size_toArray, hT.dat.length, tab_length]
  refine Calls.call_len_list (N.isList hl) (by rw [e]; omega) ?_
  rw [e]
  exact h
theorem src_trI3 {elt : Expr} {xn ms js : Str} {scope : Scope} {cm c l : Addr} {oc : Obj} {tj : Tok} {j : Nat} {Fin : Shared → List Value → List (Addr × Obj) → Prop} {r : Addr} {t u v : Tok} {s₁ : Shared} {tl : List (Addr × Obj)} {vs : List Value} {f : Nat → Nat → Dat} {ρ κ : Nat}
    (hT : TabAt news tl cm l vs f ρ κ) (hc : (c, oc) ∈ news) (hcd : oc.data = .cell (some (.int (0 + (j : Int)) tj))) (hh : A.handled = none) (F : Fr h₀ L s₁.heap m) (N : News h₀ L s₁.heap news) (hr : IsRange s₁.heap r 0 (ρ : Int) 1 t u v) (hρ : ρ < 8)
    (turn : ∀ i ys ds add t I oI C oC D m₂ h tk (E' : Value → Shared → Prop), i < ρ → PrRow (fun i => f i j) i ds → NsObj oC m₂ → m₂ xn = some (.int (0 + (i : Int)) t) → Fr h₀ L h m → News h₀ L h ((I, oI) :: (C, oC) :: (D, lst ys) :: (news ++ add)) → TabAt ((I, oI) :: (C, oC) :: (D, lst ys) :: (news ++ add)) tl cm l vs f ρ κ →
      wpAny (model prog w) A (eval elt (compEnvC scope [(ms, cm), (js, c)] C env)) (Made h₀ L m { s₁ with heap := h, toks := tk } ((I, oI) :: (C, oC) :: (D, lst ys) :: (news ++ add)) (fun y add2 => ∃ d, DatIn ((tl ++ add) ++ add2) y d ∧ PrRow (fun i => f i j) (i + 1) (ds ++ [d]))) E' { s₁ with heap := h, toks := tk })
    (fin : ∀ g' ys add, DatAll (tl ++ add) ys ((List.range ρ).map fun i => f i j) → (∀ p ∈ add, ∀ q ∈ news, p.1 ≠ q.1) → Fin { s₁ with heap := g' } ys (news ++ add)) :
    CompSrc prog w A h₀ L m env elt xn scope [(ms, cm), (js, c)] Fin (.ref r) s₁ :=
  src_trI2 hT hc hcd hh F N hr (by rw [hT.dat.length, tab_length]) hρ turn fin
theorem ne_same {a b : Addr} {na nb : Nat} {n₁ n₂ : List (Addr × Obj)} {xs ys : List Value} {ds : List Dat} (N : News h₀ L s.heap news) (ma : (a, listOf xs.toArray na) ∈ news) (Da : DatAll n₁ xs ds) (sa : ∀ p ∈ n₁, p ∈ news) (mb : (b, listOf ys.toArray nb) ∈ news) (Db : DatAll n₂ ys ds) (sb : ∀ p ∈ n₂, p ∈ news)
    (hok : ∀ d ∈ ds, kqdOk 8 d = true) (hu : A.units + 64 < cLine) (h : Q (.bool false) s) : wpAny (model prog w) A (compareOp .NotEq (.ref a) (.ref b)) Q E s :=
  kqd_ne N ma rfl rfl Da sa mb rfl rfl Db sb hok hok hu (by simpa using h)
theorem pair_ok {d : Dat} (h : IsPair d) (n : Nat) : kqdOk (n + 1) d = true := by
  obtain ⟨a, b, rfl⟩ := h
  simp [kqdOk]
theorem tab_ok {f : Nat → Nat → Dat} (h : ∀ i j, IsPair (f i j)) (ρ κ : Nat) : ∀ d ∈ tabD f ρ κ, kqdOk 8 d = true := by
  intro d hd
  obtain ⟨i, _, rfl⟩ := List.mem_map.mp hd
  simp only [kqdOk, List.all_eq_true]
  intro e he
  obtain ⟨j, _, rfl⟩ := List.mem_map.mp he
  exact pair_ok (h i j) 6
theorem tab_okR {g : Nat → Dat} (h : ∀ k, IsPair (g k)) (k ρ κ : Nat) : ∀ d ∈ tabD (rowsG g k) ρ κ, kqdOk 8 d = true := tab_ok (fun i j => h (i * k + j)) ρ κ
theorem tab_okF {g : Nat → Dat} (h : ∀ k, IsPair (g k)) (k ρ κ : Nat) : ∀ d ∈ tabD (fun j i => rowsG g k i j) ρ κ, kqdOk 8 d = true := tab_ok (fun j i => h (i * k + j)) ρ κ
end
end Mine
namespace Mine
open PySem PySem.W PySem.Spec PySem.Calls PyProof.Rows PyProof.Rows.LCg
theorem off1_of {D : Addr} : ∀ {l : List (Addr × Obj)}, (∀ p ∈ l, p.1 ≠ D) → Off1 D l
  | [], _ => trivial
  | a :: _, h => ⟨h a List.mem_cons_self, off1_of fun p hp => h p (List.mem_cons_of_mem _ hp)⟩
theorem off_use {D : Addr} {l : List (Addr × Obj)} (h : ∀ p ∈ l, p.1 ≠ D) (p : Addr × Obj) (hp : p ∈ l) : p.1 ≠ D := h p hp
section
variable {prog : Program} {w : World} {A : Around} {E : Value → Shared → Prop} {s : Shared} {h₀ : Heap} {L : Addr} {m : Str → Option Value} {news news' : List (Addr × Obj)} {Q : Value → Shared → Prop}
theorem append_tab {D Dl : Addr} {vs zs : List Value} {n nz : Nat} {tl tl0 : List (Addr × Obj)} {g : Nat → Dat} {κ r : Nat} (F : Fr h₀ L s.heap m) (N : News h₀ L s.heap news)
    (U : Upd D (listOf vs.toArray n) (listOf (vs ++ [Value.ref Dl]).toArray (n + 1)) news news') (hM : DatAll tl vs (tabD (rowsG g κ) r κ)) (_hlz : (Dl, listOf zs.toArray nz) ∈ news) (hz : DatAll tl0 zs ((List.range κ).map (rowsG g κ r))) (hr : r < 8)
    (h : ∀ h', Fr h₀ L h' m → News h₀ L h' news' → DatAll ((tl ++ tl0) ++ [(Dl, listOf zs.toArray nz)]) (vs ++ [Value.ref Dl]) (tabD (rowsG g κ) (r + 1) κ) → Q .none { s with heap := h' }) :
    wpAny (model prog w) A (call (.builtin "list.append") [.ref D, .ref Dl]) Q E s := by
  have hD : DatAll ((tl ++ tl0) ++ [(Dl, listOf zs.toArray nz)]) (vs ++ [Value.ref Dl]) (tabD (rowsG g κ) (r + 1) κ) := by
    have e : tabD (rowsG g κ) (r + 1) κ = tabD (rowsG g κ) r κ ++ [Dat.list ((List.range κ).map (rowsG g κ r))] := by
      unfold tabD; rw [List.range_succ, List.map_append]; rfl
    rw [e]
    refine (hM.mono fun p hp => List.mem_append_left _ (List.mem_append_left _ hp)).append (.one (DatIn.list (List.mem_append_right _ List.mem_cons_self) (hz.mono fun p hp => List.mem_append_left _ (List.mem_append_right _ hp))))
  refine append_K (its := vs.toArray) F N (by rw [List.push_toArray]; exact U) (fun h' F' N' => h h' F' N' hD) ?_
  rw [List.size_toArray, hM.length, tab_length, sizeLine_eq]
  omega
end
end Mine
namespace Mine
open PySem PySem.W PySem.Spec PySem.Calls PyProof.Rows PyProof.Rows.LCg
theorem news_drop2 {h₀ h : Heap} {L : Addr} {a b : Addr × Obj} {l : List (Addr × Obj)} (N : News h₀ L h (a :: b :: l)) : News h₀ L h (a :: l) := fun p hp => by
  rcases List.mem_cons.mp hp with rfl | hp
  · exact N _ List.mem_cons_self
  · exact N p (List.mem_cons_of_mem _ (List.mem_cons_of_mem _ hp))
theorem off_sym {D a : Addr} {o : Obj} {l : List (Addr × Obj)} (h : ∀ p ∈ l, p.1 ≠ D) (hm : (a, o) ∈ l) : D ≠ a := Ne.symm (h _ hm)
theorem lt_sym {D a : Addr} {o : Obj} {l : List (Addr × Obj)} (h : ∀ p ∈ l, p.1 < D) (hm : (a, o) ∈ l) : D ≠ a := Ne.symm (Nat.ne_of_lt (h _ hm))
theorem off_fst {D a : Addr} {o : Obj} {l : List (Addr × Obj)} (h : ∀ p ∈ l, p.1 ≠ D) (hm : (a, o) ∈ l) : a ≠ D := h _ hm
end Mine

set_option maxRecDepth 100000
namespace Mine
open PySem PySem.Spec PySem.Calls PyProof.Rows PyProof.Rows.LCg

section
variable {prog : Program} {w : World} {A : Around} {E : Value → Shared → Prop} {s : Shared} {h₀ : Heap} {L : Addr} {env : Env}

/-- how a turn of a loop ends: the iterator is as it was, the names that the loop does not store too, and what the loop keeps of the ledger holds again -/
def TurnG (h₀ : Heap) (L I : Addr) (oI : Obj) (st : List Str) (m₀ : Str → Option Value) (s₁ : Shared) (J : List (Addr × Obj) → Prop) (Q : Flow → Shared → Prop) (f : Flow) (s₃ : Shared) : Prop :=
  match f with
  | .ret v => Q (.ret v) s₃
  | .brk => Q .next s₃
  | _ => ∃ h' tk' m' nw', s₃ = { s₁ with heap := h', toks := tk' } ∧ Fr h₀ L h' m' ∧ News h₀ L h' ((I, oI) :: nw') ∧ (∀ p ∈ nw', p.1 ≠ I) ∧ (∀ y, st.contains y = false → m' y = m₀ y) ∧ J nw'

theorem fr_st {h : Heap} {st : List Str} {m₀ m₁ : Str → Option Value} (hm : ∀ y, st.contains y = false → m₁ y = m₀ y) (F : Fr h₀ L h m₁) : Fr h₀ L h (fun y => if st.contains y then m₁ y else m₀ y) := by
  have e : (fun y => if st.contains y then m₁ y else m₀ y) = m₁ := by
    funext y
    by_cases hy : st.contains y = true
    · rw [if_pos hy]
    · rw [if_neg hy, hm y (by simpa using hy)]
  rw [e]; exact F

theorem skip_name {st : List Str} {x y : Str} {a b c : Option Value} (hx : st.contains x = true) (hy : st.contains y = false) (h : b = c) : (if y = x then a else b) = c := by
  rw [if_neg, h]
  rintro rfl
  rw [hx] at hy; cases hy
theorem skip_many {st st' : List Str} {y : Str} {a b c : Option Value} (hx : st'.all (fun x => st.contains x) = true) (hy : st.contains y = false) (h : b = c) : (if st'.contains y then a else b) = c := by
  rw [if_neg, h]
  intro hc
  have := List.all_eq_true.mp hx y (List.contains_iff_mem.mp hc)
  rw [hy] at this; cases this

theorem go_list {target : Expr} (ht : (∃ x p, target = .Name x p) ∨ ∃ es k p, target = .Tuple es k p) {I l : Addr} {i : Nat} {v : Value} {Q : Unit → Shared → Prop} (hit : s.heap.IsListIter I l i) (hQ : Q () s) :
    wpAny (model prog w) A (letOwnedTupleGo target (.ref I) v) Q E s := by
  rcases ht with ⟨x, p, rfl⟩ | ⟨es, k, p, rfl⟩
  · exact wpAny_pure hQ
  · cases v with
    | ref T => exact wpAny_letOwnedTupleGo_listiter hit hQ
    | _ => exact wpAny_pure hQ

def ForListSrc (prog : Program) (w : World) (A : Around) (h₀ : Heap) (env : Env) (target : Expr) (body : List Stmt) (Q : Flow → Shared → Prop) (E : Value → Shared → Prop) (xv : Value) (s₁ : Shared) : Prop :=
  ∃ l vs k news m₀ st, ∃ J : Nat → List (Addr × Obj) → Prop, xv = .ref l ∧ A.handled = none ∧ Fr h₀ env.locals s₁.heap m₀ ∧ News h₀ env.locals s₁.heap news ∧ (∀ i nw, J i nw → (l, ({ cls := .type "list", data := .seq (List.toArray vs) k } : Obj)) ∈ nw) ∧ J 0 news ∧
    (∀ (i : Nat) (v : Value) (u : Str → Option Value) nw I oI h tk, vs[i]? = some v → J i nw → Fr h₀ env.locals h (fun y => if List.contains st y then u y else m₀ y) → News h₀ env.locals h ((I, oI) :: nw) → (∀ p ∈ nw, p.1 ≠ I) →
      wpAny (model prog w) A (assign target env v) (fun _ s₂ => wpAny (model prog w) A (execs body env) (TurnG h₀ env.locals I oI st m₀ s₁ (J (i + 1)) Q) E s₂) E { s₁ with heap := h, toks := tk }) ∧
    (∀ (u : Str → Option Value) nw h tk, J vs.length nw → Fr h₀ env.locals h (fun y => if List.contains st y then u y else m₀ y) → News h₀ env.locals h nw → Q .next { s₁ with heap := h, toks := tk })

theorem For_list {Q : Flow → Shared → Prop} {target : Expr} {pos : Pos} {iter : Expr} {body : List Stmt} {m : Str → Option Value} (_F : Fr h₀ env.locals s.heap m) (ht : (∃ x p, target = .Name x p) ∨ ∃ es k p, target = .Tuple es k p)
    (h : wpAny (model prog w) A (eval iter env) (ForListSrc prog w A h₀ env target body Q E) E s)
    (hs : ∀ x, foldedSetIterable iter env x = pure x := by intro _; rfl) (hE : PassesOwn (model prog w) A env E := by passes_own) :
    wpAny (model prog w) A (exec (.For target iter body [] pos) env) Q E s := by
  refine wpAny_For (wpAny_mono h (fun xv s₁ h₁ => ?_) fun _ _ e => e) hs
  obtain ⟨l, vs, k, news, m₀, st, J, rfl, hh, F, N, hl, h0, step, fin⟩ := h₁
  have hol := (N _ (hl 0 news h0)).1
  have hls : s₁.heap.IsList l vs.toArray := ⟨_, hol, rfl, k, rfl⟩
  refine wpAny_pyIter_list hls ?_
  generalize hI : s₁.heap.objs.size = I
  have up : ∀ b' o, s₁.heap.get? b' = some o → (s₁.heap.push { cls := .type "list_iterator", data := .fields #[.ref l, .int 0 0] }).get? b' = some o := fun _ _ e => Heap.get?_push_of_some _ e
  have hI₀ : h₀.get? I = none := hI ▸ next_is_new F
  have hIL : env.locals ≠ I := hI ▸ Nat.ne_of_lt F.ns.lt
  refine codeAny_forLoop_any
    (fun k' s' => ∃ h' tk i m₁ nw, s' = { s₁ with heap := h', toks := tk } ∧ i ≤ vs.length ∧ k' = vs.length + 1 - i ∧ h'.IsListIter I l i ∧ Fr h₀ env.locals h' m₁ ∧ News h₀ env.locals h' nw ∧ (∀ p ∈ nw, p.1 ≠ I) ∧ (∀ y, st.contains y = false → m₁ y = m₀ y) ∧ J i nw) ?_ (vs.length + 1)
    ⟨_, _, 0, m₀, news, rfl, Nat.zero_le _, rfl, ⟨_, hI ▸ Heap.get?_push_size _ rfl, rfl, rfl⟩, F.keeps up, N.grown up, fun p hp => hI ▸ Nat.ne_of_lt (Heap.lt_size (N p hp).1), fun _ _ => rfl, h0⟩
  rintro k' s' ⟨h', tk, i, m₁, nw, rfl, hi, rfl, hit, F', N', off', hm, hJ⟩
  have hl' : h'.IsList l vs.toArray := ⟨_, (N' _ (hl i nw hJ)).1, rfl, k, rfl⟩
  by_cases hlt : i < vs.length
  · have hv : vs[i]? = some vs[i] := List.getElem?_eq_getElem hlt
    refine wpAny_pyNext_list_item (i := i) (x := vs[i]) hit hl' (by simpa using hv) fun h₂ hit₂ hs₂ => ?_
    obtain ⟨oI, eI, cI, dI⟩ := id hit₂
    replace hs₂ : Heap.SameBut I h' h₂ := hs₂
    have F₂ : Fr h₀ env.locals h₂ m₁ := F'.change hs₂ (Ne.symm hIL) hI₀
    have N₂ : News h₀ env.locals h₂ ((I, oI) :: nw) := fun p hp => by
      rcases List.mem_cons.mp hp with rfl | hp
      · exact ⟨eI, Ne.symm hIL, hI₀⟩
      · exact ⟨(hs₂.2 _ (off' p hp)).trans (N' p hp).1, (N' p hp).2⟩
    refine go_list ht hit₂ ?_
    refine wpAny_mono (step i vs[i] m₁ nw I oI h₂ tk hv hJ (fr_st hm F₂) N₂ off') (fun _ s₂ h₂' => wpAny_passesOwn hE (wpAny_mono h₂' (fun f s₃ h₃ => ?_) fun _ _ e => e)) hE
    have fin' : (∃ h' tk' m' nw', s₃ = { s₁ with heap := h', toks := tk' } ∧ Fr h₀ env.locals h' m' ∧ News h₀ env.locals h' ((I, oI) :: nw') ∧ (∀ p ∈ nw', p.1 ≠ I) ∧ (∀ y, st.contains y = false → m' y = m₀ y) ∧ J (i + 1) nw') →
        ∃ k', k' < vs.length + 1 - i ∧ ∃ h' tk i m₁ nw, s₃ = { s₁ with heap := h', toks := tk } ∧ i ≤ vs.length ∧ k' = vs.length + 1 - i ∧ h'.IsListIter I l i ∧ Fr h₀ env.locals h' m₁ ∧ News h₀ env.locals h' nw ∧ (∀ p ∈ nw, p.1 ≠ I) ∧ (∀ y, st.contains y = false → m₁ y = m₀ y) ∧ J i nw := by
      rintro ⟨h₄, tk₄, m₄, nw₄, rfl, F₄, N₄, off₄, hm₄, J₄⟩
      exact ⟨vs.length + 1 - (i + 1), by omega, h₄, tk₄, i + 1, m₄, nw₄, rfl, hlt, rfl, ⟨oI, (N₄ _ List.mem_cons_self).1, cI, dI⟩, F₄, fun p hp => N₄ p (List.mem_cons_of_mem _ hp), off₄, hm₄, J₄⟩
    cases f with
    | ret v => exact h₃
    | brk => exact h₃
    | cont => exact fin' h₃
    | next => exact fin' h₃
  · obtain rfl : i = vs.length := Nat.le_antisymm hi (Nat.not_lt.mp hlt)
    refine wpAny_pyNext_list_end hh hit hl' (by simp) fun h₂ hs₂ => wpAny_execs_nil ?_
    replace hs₂ : Heap.ExtBut I h' h₂ := hs₂
    have kp : ∀ b o, b ∉ [I] → h'.get? b = some o → h₂.get? b = some o := fun b o hb e => hs₂ b o (by simpa using hb) e
    exact fin m₁ nw h₂ tk hJ (fr_st hm (fr_but F' kp hIL hI₀)) (news_but N' kp off')

def ForRangeSrc (prog : Program) (w : World) (A : Around) (h₀ : Heap) (env : Env) (x : Str) (body : List Stmt) (Q : Flow → Shared → Prop) (E : Value → Shared → Prop) (xv : Value) (s₁ : Shared) : Prop :=
  ∃ r a b t u v n news m₀ st, ∃ J : Nat → List (Addr × Obj) → Prop, xv = .ref r ∧ A.handled = none ∧ Fr h₀ env.locals s₁.heap m₀ ∧ News h₀ env.locals s₁.heap news ∧
    IsRange s₁.heap r a b 1 t u v ∧ Builtin.Range.small a b 1 = true ∧ Builtin.Range.rangeSize a b 1 = ((n : Nat) : Int) ∧ List.contains st x = true ∧ J 0 news ∧
    (∀ (i : Nat) (u : Str → Option Value) (t : Tok) nw I oI h tk, i < n → J i nw → Fr h₀ env.locals h (fun y => if y = x then some (.int (a + (i : Int)) t) else if List.contains st y then u y else m₀ y) → News h₀ env.locals h ((I, oI) :: nw) → (∀ p ∈ nw, p.1 ≠ I) →
      wpAny (model prog w) A (execs body env) (TurnG h₀ env.locals I oI st m₀ s₁ (J (i + 1)) Q) E { s₁ with heap := h, toks := tk }) ∧
    (∀ (u : Str → Option Value) nw h tk, J n nw → Fr h₀ env.locals h (fun y => if List.contains st y then u y else m₀ y) → News h₀ env.locals h nw → Q .next { s₁ with heap := h, toks := tk })

theorem For_range {Q : Flow → Shared → Prop} {x : Str} {px pos : Pos} {iter : Expr} {body : List Stmt} {m : Str → Option Value} (_F : Fr h₀ env.locals s.heap m) (hx : env.kindOf x = some .local)
    (hp : (env.scope.kind == .class || (env.scope.kind == .module && env.locals != env.globals)) = false)
    (h : wpAny (model prog w) A (eval iter env) (ForRangeSrc prog w A h₀ env x body Q E) E s)
    (hs : ∀ x, foldedSetIterable iter env x = pure x := by intro _; rfl) (hE : PassesOwn (model prog w) A env E := by passes_own) :
    wpAny (model prog w) A (exec (.For (.Name x px) iter body [] pos) env) Q E s := by
  refine wpAny_For (wpAny_mono h (fun xv s₁ h₁ => ?_) fun _ _ e => e) hs
  obtain ⟨r, a, b, t, u, v, n, news, m₀, st, J, rfl, hh, F, N, hr, hsm, hn, hst, h0, step, fin⟩ := h₁
  refine wpAny_pyIter_range hr hsm ?_
  generalize hI : s₁.heap.objs.size = I
  have up : ∀ b' o, s₁.heap.get? b' = some o → (s₁.heap.push { cls := .type "range_iterator", data := .fields #[rawInt a, rawInt (Builtin.Range.rangeSize a b 1), rawInt 1] }).get? b' = some o := fun _ _ e => Heap.get?_push_of_some _ e
  have hI₀ : h₀.get? I = none := hI ▸ next_is_new F
  have hIL : env.locals ≠ I := hI ▸ Nat.ne_of_lt F.ns.lt
  have W := range_walks (prog := prog) (w := w) (A := A) (I := I) hh a n
  refine codeAny_forLoop
    (fun k s' => ∃ h' tk i m₁ nw, s' = { s₁ with heap := h', toks := tk } ∧ i ≤ n ∧ k = n + 1 - i ∧ IsRangeIter h' I (a + (i : Nat) * 1) ((n : Int) - (i : Nat)) 1 ∧ Fr h₀ env.locals h' m₁ ∧ News h₀ env.locals h' nw ∧ (∀ p ∈ nw, p.1 ≠ I) ∧ (∀ y, st.contains y = false → m₁ y = m₀ y) ∧ J i nw) ?_ (n + 1)
    ⟨_, _, 0, m₀, news, rfl, Nat.zero_le _, rfl, ?_, F.keeps up, N.grown up, fun p hp => hI ▸ Nat.ne_of_lt (Heap.lt_size (N p hp).1), fun _ _ => rfl, h0⟩
  · rintro k s' ⟨h', tk, i, m₁, nw, rfl, hi, rfl, hit, F', N', off', hm, hJ⟩
    by_cases hlt : i < n
    · refine W.item i _ _ _ hlt hit fun v h₂ tk₂ hPv hst₂ hk₂ => ?_
      obtain ⟨t, rfl⟩ := hPv
      have F₂ : Fr h₀ env.locals h₂ m₁ := fr_but F' hk₂ hIL hI₀
      obtain ⟨oI, eI, backI⟩ : ∃ oI, h₂.get? I = some oI ∧ ∀ h' : Heap, h'.get? I = some oI → IsRangeIter h' I (a + ((i + 1 : Nat) : Int) * 1) ((n : Int) - ((i + 1 : Nat) : Int)) 1 := ⟨_, hst₂, fun _ e => e⟩
      have N₂ : News h₀ env.locals h₂ ((I, oI) :: nw) := fun p hp => by
        rcases List.mem_cons.mp hp with rfl | hp
        · exact ⟨eI, Ne.symm hIL, hI₀⟩
        · exact (news_but N' hk₂ off') p hp
      refine wpAny_assign_Name (wpAny_storeName_local hx F₂.ns (fun h₃ hn₃ hs₃ => ?_) hp)
      replace hs₃ : Heap.SameBut env.locals h₂ h₃ := hs₃
      have F₃ : Fr h₀ env.locals h₃ (fun y => if y = x then some (.int (a + (i : Int)) t) else if List.contains st y then m₁ y else m₀ y) := by
        have e : (fun y => if y = x then some (.int (a + (i : Int)) t) else if List.contains st y then m₁ y else m₀ y) = fun y => if y = x then some (.int (a + (i : Int)) t) else m₁ y := by
          funext y
          by_cases hy : st.contains y = true
          · rw [if_pos hy]
          · rw [if_neg hy, hm y (by simpa using hy)]
        rw [e]
        exact F₂.set hn₃ hs₃
      refine wpAny_passesOwn hE (wpAny_mono (step i m₁ t nw I oI h₃ _ hlt hJ F₃ (N₂.set hs₃) off') (fun f s₃ h₃' => ?_) fun _ _ e => e)
      have fin' : (∃ h' tk' m' nw', s₃ = { s₁ with heap := h', toks := tk' } ∧ Fr h₀ env.locals h' m' ∧ News h₀ env.locals h' ((I, oI) :: nw') ∧ (∀ p ∈ nw', p.1 ≠ I) ∧ (∀ y, st.contains y = false → m' y = m₀ y) ∧ J (i + 1) nw') →
          ∃ k', k' < n + 1 - i ∧ ∃ h' tk i m₁ nw, s₃ = { s₁ with heap := h', toks := tk } ∧ i ≤ n ∧ k' = n + 1 - i ∧ IsRangeIter h' I (a + (i : Nat) * 1) ((n : Int) - (i : Nat)) 1 ∧ Fr h₀ env.locals h' m₁ ∧ News h₀ env.locals h' nw ∧ (∀ p ∈ nw, p.1 ≠ I) ∧ (∀ y, st.contains y = false → m₁ y = m₀ y) ∧ J i nw := by
        rintro ⟨h₄, tk₄, m₄, nw₄, rfl, F₄, N₄, off₄, hm₄, J₄⟩
        exact ⟨n + 1 - (i + 1), by omega, h₄, tk₄, i + 1, m₄, nw₄, rfl, hlt, rfl, backI _ (N₄ _ List.mem_cons_self).1, F₄, fun p hp => N₄ p (List.mem_cons_of_mem _ hp), off₄, hm₄, J₄⟩
      cases f with
      | ret v => exact h₃'
      | brk => exact h₃'
      | cont => exact fin' h₃'
      | next => exact fin' h₃'
    · obtain rfl : i = n := Nat.le_antisymm hi (Nat.not_lt.mp hlt)
      refine W.done _ _ _ hit fun h₂ tk₂ hk₂ => wpAny_execs_nil ?_
      exact fin m₁ nw h₂ tk₂ hJ (fr_st hm (fr_but F' hk₂ hIL hI₀)) (news_but N' hk₂ off')
  · show IsRangeIter _ I (a + ((0 : Nat) : Int) * 1) ((n : Int) - ((0 : Nat) : Int)) 1
    rw [show a + ((0 : Nat) : Int) * 1 = a by omega, show (n : Int) - ((0 : Nat) : Int) = n by omega, ← hI, ← hn]
    exact Heap.get?_push_size _ rfl
end
end Mine

set_option maxRecDepth 100000
namespace Mine
open PySem PySem.W PySem.Spec PySem.Calls PyProof.Rows

/-- a fact that the walk's arithmetic does not open -/
structure Kept (P : Prop) : Prop where
  out : P
def JoinC (C : Prop) (h₀ : Heap) (L : Addr) (m : Str → Option Value) (news : List (Addr × Obj)) (s : Shared) (k : Bool) (s' : Shared) : Prop := (k = true ↔ C) ∧ KJoinAt h₀ L m news s s'
def JoinE (x y : Str) (R : Int → Bool → Prop) (h₀ : Heap) (L : Addr) (m : Str → Option Value) (news : List (Addr × Obj)) (s : Shared) (f : Flow) (s' : Shared) : Prop :=
  f = .next ∧ ∃ r z t, R r z ∧ KJoinAt h₀ L (fun q => if q = y then some (.bool z) else if q = x then some (.int r t) else m q) news s s'
def JoinO (y : Str) (R : Bool → Prop) (h₀ : Heap) (L : Addr) (m : Str → Option Value) (news : List (Addr × Obj)) (s : Shared) (f : Flow) (s' : Shared) : Prop :=
  f = .next ∧ ∃ z, R z ∧ KJoinAt h₀ L (fun q => if q = y then some (.bool z) else m q) news s s'
def JoinT (P : Prop) : Prop := P
def JoinK (P : Prop) : Prop := P
def JoinK1 (P : Prop) : Prop := P

section
variable {M : Model} {A : Around} {E : Value → Shared → Prop} {s : Shared} {env : Env} {h₀ : Heap} {L : Addr} {m : Str → Option Value} {news : List (Addr × Obj)}

theorem if_two {test : Expr} {body : List Stmt} {x y : Str} {pos : Pos} {a : Int} {b : Bool} {t₀ : Tok} {Q : Flow → Shared → Prop} (C : Prop) (R : Int → Bool → Prop) (hxy : x ≠ y)
    (hx : m x = some (.int a t₀)) (hy : m y = some (.bool b))
    (hc : wpAny M A (isTrue test env (eval test env)) (fun k s₂ => JoinC C h₀ L m news s k s₂) E s)
    (hv : JoinT (C → ∀ s₂, KJoinAt h₀ L m news s s₂ → wpAny M A (execs body env) (fun f s₃ => JoinE x y R h₀ L m news s f s₃) E s₂))
    (hk : JoinK (∀ (r : Int) (z : Bool) (t : Tok) (s₃ : Shared), Kept ((C ∧ R r z) ∨ (¬ C ∧ r = a ∧ z = b)) → KJoinAt h₀ L (fun q => if q = y then some (.bool z) else if q = x then some (.int r t) else m q) news s s₃ → Q .next s₃)) :
    wpAny M A (exec (.If test body [] pos) env) Q E s := by
  refine wpAny_If (wpAny_mono hc (fun k s₂ hkc => ?_) fun _ _ h => h)
  obtain ⟨hkc, hat⟩ := hkc
  cases k with
  | true =>
    show wpAny M A (execs body env) Q E s₂
    refine wpAny_mono (hv (hkc.mp rfl) s₂ hat) (fun f s₃ hf => ?_) fun _ _ h => h
    obtain ⟨rfl, r, z, t, hR, ht⟩ := hf
    exact hk r z t s₃ ⟨.inl ⟨hkc.mp rfl, hR⟩⟩ ht
  | false =>
    show wpAny M A (execs [] env) Q E s₂
    refine wpAny_execs_nil (hk a b t₀ s₂ ⟨.inr ⟨fun hC => (nomatch hkc.mpr hC), rfl, rfl⟩⟩ ?_)
    have e : (fun q => if q = y then some (Value.bool b) else if q = x then some (Value.int a t₀) else m q) = m := by
      funext q
      by_cases h1 : q = y
      · rw [if_pos h1, h1, hy]
      · by_cases h2 : q = x
        · rw [if_neg h1, if_pos h2, h2, hx]
        · rw [if_neg h1, if_neg h2]
    rw [e]
    exact hat

theorem if_one {test : Expr} {body : List Stmt} {y : Str} {pos : Pos} {b : Bool} {Q : Flow → Shared → Prop} (C : Prop) (R : Bool → Prop) (hy : m y = some (.bool b))
    (hc : wpAny M A (isTrue test env (eval test env)) (fun k s₂ => JoinC C h₀ L m news s k s₂) E s)
    (hv : JoinT (C → ∀ s₂, KJoinAt h₀ L m news s s₂ → wpAny M A (execs body env) (fun f s₃ => JoinO y R h₀ L m news s f s₃) E s₂))
    (hk : JoinK1 (∀ (z : Bool) (s₃ : Shared), Kept ((C ∧ R z) ∨ (¬ C ∧ z = b)) → KJoinAt h₀ L (fun q => if q = y then some (.bool z) else m q) news s s₃ → Q .next s₃)) :
    wpAny M A (exec (.If test body [] pos) env) Q E s := by
  refine wpAny_If (wpAny_mono hc (fun k s₂ hkc => ?_) fun _ _ h => h)
  obtain ⟨hkc, hat⟩ := hkc
  cases k with
  | true =>
    show wpAny M A (execs body env) Q E s₂
    refine wpAny_mono (hv (hkc.mp rfl) s₂ hat) (fun f s₃ hf => ?_) fun _ _ h => h
    obtain ⟨rfl, z, hR, ht⟩ := hf
    exact hk z s₃ ⟨.inl ⟨hkc.mp rfl, hR⟩⟩ ht
  | false =>
    show wpAny M A (execs [] env) Q E s₂
    refine wpAny_execs_nil (hk b s₂ ⟨.inr ⟨fun hC => (nomatch hkc.mpr hC), rfl⟩⟩ ?_)
    have e : (fun q => if q = y then some (Value.bool b) else m q) = m := by
      funext q
      by_cases h1 : q = y
      · rw [if_pos h1, h1, hy]
      · rw [if_neg h1]
    rw [e]
    exact hat
end

abbrev nm (s : String) : Str := Str.ofString s
section
variable {M : Model} {A : Around} {E : Value → Shared → Prop} {s : Shared} {env : Env} {h₀ : Heap} {L : Addr} {m : Str → Option Value} {news : List (Addr × Obj)} {test : Expr} {body : List Stmt} {pos : Pos} {Q : Flow → Shared → Prop} {CASE N S W RAW AT a : Int} {b : Bool} {tc tn ts tw tr ta t₀ : Tok}
theorem if_case1 (_F : Fr h₀ L s.heap m) (_N : News h₀ L s.heap news) (_hC : m (Str.ofString "case") = some (.int CASE tc)) (_hn : m (Str.ofString "n") = some (.int N tn)) (_hs : m (Str.ofString "step") = some (.int S ts)) (hx : m (Str.ofString "rows") = some (.int a t₀)) (hy : m (Str.ofString "want") = some (.bool b))
    (hc : wpAny M A (isTrue test env (eval test env)) (fun k s₂ => JoinC (CASE = 1) h₀ L m news s k s₂) E s)
    (hv : JoinT ((CASE = 1) → ∀ s₂, KJoinAt h₀ L m news s s₂ → wpAny M A (execs body env) (fun f s₃ => JoinE (Str.ofString "rows") (Str.ofString "want") (fun r z => r = N + S ∧ z = false) h₀ L m news s f s₃) E s₂))
    (hk : JoinK (∀ (r : Int) (z : Bool) (t : Tok) (s₃ : Shared), Kept (((CASE = 1) ∧ (fun r z => r = N + S ∧ z = false) r z) ∨ (¬ (CASE = 1) ∧ r = a ∧ z = b)) → KJoinAt h₀ L (fun q => if q = Str.ofString "want" then some (.bool z) else if q = Str.ofString "rows" then some (.int r t) else m q) news s s₃ → Q .next s₃)) :
    wpAny M A (exec (.If test body [] pos) env) Q E s := if_two (CASE = 1) (fun r z => r = N + S ∧ z = false) (by decide) hx hy hc hv hk
theorem if_case2 (_F : Fr h₀ L s.heap m) (_N : News h₀ L s.heap news) (_hC : m (Str.ofString "case") = some (.int CASE tc)) (_hn : m (Str.ofString "n") = some (.int N tn)) (_hr : m (Str.ofString "raw") = some (.int RAW tr)) (hx : m (Str.ofString "rows") = some (.int a t₀)) (hy : m (Str.ofString "want") = some (.bool b))
    (hc : wpAny M A (isTrue test env (eval test env)) (fun k s₂ => JoinC (CASE = 2) h₀ L m news s k s₂) E s)
    (hv : JoinT ((CASE = 2) → ∀ s₂, KJoinAt h₀ L m news s s₂ → wpAny M A (execs body env) (fun f s₃ => JoinE (Str.ofString "rows") (Str.ofString "want") (fun r z => r = RAW ∧ (z = true ↔ RAW = N)) h₀ L m news s f s₃) E s₂))
    (hk : JoinK (∀ (r : Int) (z : Bool) (t : Tok) (s₃ : Shared), Kept (((CASE = 2) ∧ (fun r z => r = RAW ∧ (z = true ↔ RAW = N)) r z) ∨ (¬ (CASE = 2) ∧ r = a ∧ z = b)) → KJoinAt h₀ L (fun q => if q = Str.ofString "want" then some (.bool z) else if q = Str.ofString "rows" then some (.int r t) else m q) news s s₃ → Q .next s₃)) :
    wpAny M A (exec (.If test body [] pos) env) Q E s := if_two (CASE = 2) (fun r z => r = RAW ∧ (z = true ↔ RAW = N)) (by decide) hx hy hc hv hk
theorem if_case3 (_F : Fr h₀ L s.heap m) (_N : News h₀ L s.heap news) (_hC : m (Str.ofString "case") = some (.int CASE tc)) (_hn : m (Str.ofString "n") = some (.int N tn)) (_hs : m (Str.ofString "step") = some (.int S ts)) (_hw : m (Str.ofString "w") = some (.int W tw)) (hx : m (Str.ofString "cols") = some (.int a t₀)) (hy : m (Str.ofString "want") = some (.bool b))
    (hc : wpAny M A (isTrue test env (eval test env)) (fun k s₂ => JoinC (CASE = 3) h₀ L m news s k s₂) E s)
    (hv : JoinT ((CASE = 3) → ∀ s₂, KJoinAt h₀ L m news s s₂ → wpAny M A (execs body env) (fun f s₃ => JoinE (Str.ofString "cols") (Str.ofString "want") (fun r z => r = W + S ∧ (z = true ↔ N = 0)) h₀ L m news s f s₃) E s₂))
    (hk : JoinK (∀ (r : Int) (z : Bool) (t : Tok) (s₃ : Shared), Kept (((CASE = 3) ∧ (fun r z => r = W + S ∧ (z = true ↔ N = 0)) r z) ∨ (¬ (CASE = 3) ∧ r = a ∧ z = b)) → KJoinAt h₀ L (fun q => if q = Str.ofString "want" then some (.bool z) else if q = Str.ofString "cols" then some (.int r t) else m q) news s s₃ → Q .next s₃)) :
    wpAny M A (exec (.If test body [] pos) env) Q E s := if_two (CASE = 3) (fun r z => r = W + S ∧ (z = true ↔ N = 0)) (by decide) hx hy hc hv hk
theorem if_case45 (_F : Fr h₀ L s.heap m) (_N : News h₀ L s.heap news) (_hC : m (Str.ofString "case") = some (.int CASE tc)) (_hn : m (Str.ofString "n") = some (.int N tn)) (_ha : m (Str.ofString "at") = some (.int AT ta)) (hy : m (Str.ofString "want") = some (.bool b))
    (hc : wpAny M A (isTrue test env (eval test env)) (fun k s₂ => JoinC (CASE = 4 ∨ CASE = 5) h₀ L m news s k s₂) E s)
    (hv : JoinT ((CASE = 4 ∨ CASE = 5) → ∀ s₂, KJoinAt h₀ L m news s s₂ → wpAny M A (execs body env) (fun f s₃ => JoinO (Str.ofString "want") (fun z => (z = true ↔ AT = N)) h₀ L m news s f s₃) E s₂))
    (hk : JoinK1 (∀ (z : Bool) (s₃ : Shared), Kept (((CASE = 4 ∨ CASE = 5) ∧ (fun z => (z = true ↔ AT = N)) z) ∨ (¬ (CASE = 4 ∨ CASE = 5) ∧ z = b)) → KJoinAt h₀ L (fun q => if q = Str.ofString "want" then some (.bool z) else m q) news s s₃ → Q .next s₃)) :
    wpAny M A (exec (.If test body [] pos) env) Q E s := if_one (CASE = 4 ∨ CASE = 5) (fun z => (z = true ↔ AT = N)) hy hc hv hk
theorem if_case6 (_F : Fr h₀ L s.heap m) (_N : News h₀ L s.heap news) (_hC : m (Str.ofString "case") = some (.int CASE tc))  (hy : m (Str.ofString "want") = some (.bool b))
    (hc : wpAny M A (isTrue test env (eval test env)) (fun k s₂ => JoinC (CASE = 6) h₀ L m news s k s₂) E s)
    (hv : JoinT ((CASE = 6) → ∀ s₂, KJoinAt h₀ L m news s s₂ → wpAny M A (execs body env) (fun f s₃ => JoinO (Str.ofString "want") (fun z => z = false) h₀ L m news s f s₃) E s₂))
    (hk : JoinK1 (∀ (z : Bool) (s₃ : Shared), Kept (((CASE = 6) ∧ (fun z => z = false) z) ∨ (¬ (CASE = 6) ∧ z = b)) → KJoinAt h₀ L (fun q => if q = Str.ofString "want" then some (.bool z) else m q) news s s₃ → Q .next s₃)) :
    wpAny M A (exec (.If test body [] pos) env) Q E s := if_one (CASE = 6) (fun z => z = false) hy hc hv hk
theorem if_case7 (_F : Fr h₀ L s.heap m) (_N : News h₀ L s.heap news) (_hC : m (Str.ofString "case") = some (.int CASE tc)) (_hn : m (Str.ofString "n") = some (.int N tn)) (_hr : m (Str.ofString "raw") = some (.int RAW tr)) (_hw : m (Str.ofString "w") = some (.int W tw)) (hx : m (Str.ofString "cols") = some (.int a t₀)) (hy : m (Str.ofString "want") = some (.bool b))
    (hc : wpAny M A (isTrue test env (eval test env)) (fun k s₂ => JoinC (CASE = 7) h₀ L m news s k s₂) E s)
    (hv : JoinT ((CASE = 7) → ∀ s₂, KJoinAt h₀ L m news s s₂ → wpAny M A (execs body env) (fun f s₃ => JoinE (Str.ofString "cols") (Str.ofString "want") (fun r z => r = RAW ∧ (z = true ↔ N = 0 ∨ RAW = W)) h₀ L m news s f s₃) E s₂))
    (hk : JoinK (∀ (r : Int) (z : Bool) (t : Tok) (s₃ : Shared), Kept (((CASE = 7) ∧ (fun r z => r = RAW ∧ (z = true ↔ N = 0 ∨ RAW = W)) r z) ∨ (¬ (CASE = 7) ∧ r = a ∧ z = b)) → KJoinAt h₀ L (fun q => if q = Str.ofString "want" then some (.bool z) else if q = Str.ofString "cols" then some (.int r t) else m q) news s s₃ → Q .next s₃)) :
    wpAny M A (exec (.If test body [] pos) env) Q E s := if_two (CASE = 7) (fun r z => r = RAW ∧ (z = true ↔ N = 0 ∨ RAW = W)) (by decide) hx hy hc hv hk
end
end Mine

namespace Mine
theorem want_plain {CASE N S W W0 RAW AT r1 r2 c3 c7 : Int} {z1 z2 z3 z4 z6 z7 : Bool} (hS : S = 1 ∨ S = -1) (hN : 0 ≤ N) (hA : 0 ≤ AT) (hA2 : AT ≤ N) (hW0 : 0 ≤ W0)
    (J1 : (CASE = 4 ∧ W = W0 + 1) ∨ (¬ CASE = 4 ∧ W = W0))
    (K1 : (CASE = 1 ∧ r1 = N + S ∧ z1 = false) ∨ (¬ CASE = 1 ∧ r1 = N ∧ z1 = true))
    (K2 : (CASE = 2 ∧ r2 = RAW ∧ (z2 = true ↔ RAW = N)) ∨ (¬ CASE = 2 ∧ r2 = r1 ∧ z2 = z1))
    (K3 : (CASE = 3 ∧ c3 = W + S ∧ (z3 = true ↔ N = 0)) ∨ (¬ CASE = 3 ∧ c3 = W ∧ z3 = z2))
    (K4 : ((CASE = 4 ∨ CASE = 5) ∧ (z4 = true ↔ AT = N)) ∨ (¬ (CASE = 4 ∨ CASE = 5) ∧ z4 = z3))
    (K6 : (CASE = 6 ∧ z6 = false) ∨ (¬ CASE = 6 ∧ z6 = z4))
    (K7 : (CASE = 7 ∧ c7 = RAW ∧ (z7 = true ↔ N = 0 ∨ RAW = W)) ∨ (¬ CASE = 7 ∧ c7 = c3 ∧ z7 = z6)) :
    z7 = true ↔ (CASE ≠ 6 ∧ N = r2 ∧ ∀ k : Nat, k < N.toNat → ¬ (CASE = 5 ∧ 0 + (k : Int) = AT) ∧ (if CASE = 4 ∧ 0 + (k : Int) = AT then W + S else W) = c7) := by
  have plain : CASE ≠ 5 → CASE ≠ 4 → W = c7 → ∀ k : Nat, k < N.toNat → ¬ (CASE = 5 ∧ 0 + (k : Int) = AT) ∧ (if CASE = 4 ∧ 0 + (k : Int) = AT then W + S else W) = c7 := by
    intro h5 h4 hc k _
    exact ⟨fun h => h5 h.1, by rw [if_neg fun h => h4 h.1]; exact hc⟩
  rcases K7 with ⟨h7, e7, f7⟩ | ⟨h7, e7, f7⟩
  · -- 7
    rcases K1 with ⟨h1, _⟩ | ⟨_, e1, _⟩
    · omega
    rcases K2 with ⟨h2, _⟩ | ⟨_, e2, _⟩
    · omega
    rw [f7]
    constructor
    · intro h
      refine ⟨by omega, by omega, ?_⟩
      rcases h with h | h
      · intro k hk; omega
      · exact plain (by omega) (by omega) (by omega)
    · rintro ⟨_, _, h⟩
      by_cases hn : N = 0
      · exact .inl hn
      · have := (h 0 (by omega)).2
        rw [if_neg (fun h => by omega)] at this
        exact .inr (by omega)
  subst f7 e7
  rcases K6 with ⟨h6, f6⟩ | ⟨h6, f6⟩
  · subst f6
    simp [h6]
  subst f6
  rcases K4 with ⟨h4, f4⟩ | ⟨h4, f4⟩
  · -- 4, 5
    rcases K1 with ⟨h1, _⟩ | ⟨_, e1, _⟩
    · omega
    rcases K2 with ⟨h2, _⟩ | ⟨_, e2, _⟩
    · omega
    rcases K3 with ⟨h3, _⟩ | ⟨_, e3, _⟩
    · omega
    rw [f4]
    constructor
    · intro h
      refine ⟨h6, by omega, fun k hk => ⟨fun h' => by omega, ?_⟩⟩
      rw [if_neg (fun h' => by omega)]
      exact e3.symm
    · rintro ⟨_, _, h⟩
      by_cases hn : AT = N
      · exact hn
      · have h' := h AT.toNat (by omega)
        rcases h4 with h4 | h4
        · have := h'.2
          rw [if_pos ⟨h4, by omega⟩] at this
          omega
        · exact absurd ⟨h4, by omega⟩ h'.1
  subst f4
  rcases K3 with ⟨h3, e3, f3⟩ | ⟨h3, e3, f3⟩
  · rcases K1 with ⟨h1, _⟩ | ⟨_, e1, _⟩
    · omega
    rcases K2 with ⟨h2, _⟩ | ⟨_, e2, _⟩
    · omega
    rw [f3]
    constructor
    · intro h
      exact ⟨h6, by omega, fun k hk => by omega⟩
    · rintro ⟨_, _, h⟩
      by_cases hn : N = 0
      · exact hn
      · have := (h 0 (by omega)).2
        rw [if_neg (fun h => by omega)] at this
        omega
  subst f3
  rcases K2 with ⟨h2, e2, f2⟩ | ⟨h2, e2, f2⟩
  · rw [f2]
    constructor
    · intro h
      exact ⟨h6, by omega, plain (fun h => h4 (.inr h)) (fun h => h4 (.inl h)) e3.symm⟩
    · rintro ⟨_, h, _⟩
      omega
  subst f2
  rcases K1 with ⟨h1, e1, f1⟩ | ⟨h1, e1, f1⟩
  · subst f1
    constructor
    · intro h; cases h
    · rintro ⟨_, h, _⟩
      omega
  · subst f1
    exact ⟨fun _ => ⟨h6, by omega, plain (fun h => h4 (.inr h)) (fun h => h4 (.inl h)) e3.symm⟩, fun _ => rfl⟩
end Mine

set_option maxRecDepth 100000
namespace Mine
open PySem PySem.W PySem.Spec PySem.Calls PyProof.Rows PyProof.Rows.LCg

/-- the table's data -/
def cellF (ns : List Int) (i j : Nat) : Dat := .tuple [.int (cellAt ns (5 + (0 + (i : Int) + (0 + (j : Int))).fmod 4) 0), .int 1]
def sizeT (W S CASE AT : Int) (i : Nat) : Int := if CASE = 4 ∧ 0 + (i : Int) = AT then W + S else W
def rowL (ns : List Int) (W S CASE AT : Int) (i : Nat) : List Dat := (List.range (sizeT W S CASE AT i).toNat).map (cellF ns i)
def rowT (ns : List Int) (W S CASE AT : Int) (i : Nat) : Dat := if CASE = 5 ∧ 0 + (i : Int) = AT then .tuple (rowL ns W S CASE AT i) else .list (rowL ns W S CASE AT i)

/-- what the loop that writes the table keeps -/
def TabRest (Dt : Addr) (base : List (Addr × Obj)) (row : Nat → Dat) (i : Nat) (nw : List (Addr × Obj)) : Prop :=
  ∃ vs k add, nw = (Dt, listOf (List.toArray vs) k) :: (base ++ add) ∧ DatAll add vs ((List.range i).map row) ∧ (∀ p ∈ base ++ add, p.1 ≠ Dt)
def TabJ (Dt : Addr) (base : List (Addr × Obj)) (row : Nat → Dat) (st : List Str) (m₀ : Str → Option Value) (i : Nat) (m₁ : Str → Option Value) (nw : List (Addr × Obj)) : Prop :=
  (∀ y, st.contains y = false → m₁ y = m₀ y) ∧ TabRest Dt base row i nw

section
variable {prog : Program} {w : World} {A : Around} {E : Value → Shared → Prop} {s : Shared} {h₀ : Heap} {L : Addr} {m : Str → Option Value} {env : Env} {news : List (Addr × Obj)}

theorem For_cell' {Q : Flow → Shared → Prop} {x : Str} {px pos : Pos} {iter : Expr} {body : List Stmt} {c : Addr} (_F : Fr h₀ env.locals s.heap m) (hk : env.scope.kind = .function) (hx : env.kindOf x = some .cell) (hc : env.cells.lookup x = some c)
    (h : wpAny (model prog w) A (eval iter env) (fun xv s₁ => ForCellSrc prog w A h₀ env c body Q E xv s₁) E s)
    (hs : ∀ x, foldedSetIterable iter env x = pure x := by intro _; rfl) (hE : PassesOwn (model prog w) A env E := by passes_own) :
    wpAny (model prog w) A (exec (.For (.Name x px) iter body [] pos) env) Q E s := For_cell hk hx hc h hE hs

theorem loop_table {body : List Stmt} {Q : Flow → Shared → Prop} {r Dt c : Addr} {b : Int} {t u v : Tok} {s₁ : Shared} {m₀ : Str → Option Value} {κ kt : Nat} {base : List (Addr × Obj)} {oc₀ : Obj} {vc₀ : Option Value} (row : Nat → Dat) (st : List Str)
    (hh : A.handled = none) (F : Fr h₀ env.locals s₁.heap m₀) (N : News h₀ env.locals s₁.heap news) (hc : (c, oc₀) ∈ news) (hcd : oc₀.data = .cell vc₀) (ht : (Dt, listOf (List.toArray ([] : List Value)) kt) ∈ news) (hct : @Ne Nat Dt c) (hbs : ∀ p ∈ base, p ∈ news) (ho : ∀ p ∈ base, p.1 ≠ c ∧ p.1 ≠ Dt)
    (hr : IsRange s₁.heap r 0 b 1 t u v) (hb : b = (κ : Int)) (hκ : κ < 8)
    (turn : ∀ (i : Nat) (u : Str → Option Value) (t : Tok) vs k add I oI (oc : Obj) h tk, i < κ → DatAll add vs ((List.range i).map row) → oc.data = .cell (some (.int (0 + (i : Int)) t)) → Fr h₀ env.locals h (fun y => if List.contains st y then u y else m₀ y) → News h₀ env.locals h ((I, oI) :: (c, oc) :: (Dt, listOf (List.toArray vs) k) :: (base ++ add)) →
      ((@Ne Nat I c) ∧ (@Ne Nat Dt I) ∧ (@Ne Nat Dt c)) → (∀ p ∈ base ++ add, p.1 ≠ I ∧ p.1 ≠ c ∧ p.1 ≠ Dt) →
      wpAny (model prog w) A (execs body env) (TurnC h₀ env.locals I oI c oc s₁ (TabJ Dt base row st m₀ (i + 1)) Q) E { s₁ with heap := h, toks := tk })
    (fin : ∀ (u : Str → Option Value) vs k add (oc : Obj) vc h tk, DatAll add vs ((List.range κ).map row) → oc.data = .cell vc → Fr h₀ env.locals h (fun y => if List.contains st y then u y else m₀ y) → News h₀ env.locals h ((c, oc) :: (Dt, listOf (List.toArray vs) k) :: (base ++ add)) → (∀ p ∈ base ++ add, p.1 ≠ c ∧ p.1 ≠ Dt) → Q .next { s₁ with heap := h, toks := tk }) :
    ForCellSrc prog w A h₀ env c body Q E (.ref r) s₁ := by
  subst hb
  have e : ((κ : Int) - 0).toNat = κ := by omega
  refine ⟨r, 0, κ, t, u, v, κ, (Dt, listOf (List.toArray []) kt) :: base, m₀, oc₀, vc₀, TabJ Dt base row st m₀, rfl, hh, F, ?_, hcd, ?_, hr, range_small (by omega) (by omega), (by rw [rangeSize_nat, e]), ⟨fun _ _ => rfl, [], kt, [], by rw [List.append_nil], .nil, by rw [List.append_nil]; exact fun p hp => (ho p hp).2⟩, ?_, ?_⟩
  · intro p hp
    rcases List.mem_cons.mp hp with rfl | hp
    · exact N _ hc
    · rcases List.mem_cons.mp hp with rfl | hp
      · exact N _ ht
      · exact N _ (hbs p hp)
  · intro p hp
    rcases List.mem_cons.mp hp with rfl | hp
    · exact hct
    · exact (ho p hp).1
  · rintro i m₁ nw t I oI oc h tk hi ⟨hm, vs, k, add, rfl, hD, ho'⟩ hd F' N' off' hne
    exact turn i m₁ t vs k add I oI oc h tk hi hD hd (fr_st hm F') N' ⟨hne, (off' _ List.mem_cons_self).1, (off' _ List.mem_cons_self).2⟩ fun p hp => ⟨(off' p (List.mem_cons_of_mem _ hp)).1, (off' p (List.mem_cons_of_mem _ hp)).2, ho' p hp⟩
  · rintro m₁ nw oc vc h tk ⟨hm, vs, k, add, rfl, hD, ho'⟩ hd F' N' off'
    exact fin m₁ vs k add oc vc h tk hD hd (fr_st hm F') N' fun p hp => ⟨off' p (List.mem_cons_of_mem _ hp), ho' p hp⟩

theorem append_row {Q : Value → Shared → Prop} {I Dt Dr c : Addr} {oI oc : Obj} {vs : List Value} {k i : Nat} {row : Nat → Dat} {base add new : List (Addr × Obj)}
    (hD : DatAll add vs ((List.range i).map row)) (hi : i < 8) (F : Fr h₀ L s.heap m) (N : News h₀ L s.heap news) (hI : (I, oI) ∈ news) (hc : (c, oc) ∈ news) (hw : (Dt, listOf vs.toArray k) ∈ news) (hb : ∀ p ∈ base ++ add, p ∈ news)
    (hne : (@Ne Nat I c) ∧ (@Ne Nat Dt I) ∧ (@Ne Nat Dt c)) (ho : ∀ p ∈ base ++ add, p.1 ≠ I ∧ p.1 ≠ c ∧ p.1 ≠ Dt)
    (hx : DatIn new (.ref Dr) (row i)) (hn : ∀ p ∈ new, p ∈ news) (hn2 : ∀ p ∈ new, p.1 ≠ I ∧ p.1 ≠ c ∧ p.1 ≠ Dt)
    (h : ∀ h' all, Fr h₀ L h' m → News h₀ L h' ((I, oI) :: (c, oc) :: all) → Off2 I c all → TabRest Dt base row (i + 1) all → Q .none { s with heap := h' }) :
    wpAny (model prog w) A (call (.builtin "list.append") [.ref Dt, .ref Dr]) Q E s := by
  have all4 : ∀ p ∈ base ++ (add ++ new), p ∈ news ∧ p.1 ≠ I ∧ p.1 ≠ c ∧ p.1 ≠ Dt := by
    intro p hp
    rw [← List.append_assoc] at hp
    rcases List.mem_append.mp hp with hp | hp
    · exact ⟨hb p hp, ho p hp⟩
    · exact ⟨hn p hp, hn2 p hp⟩
  have N₁ : News h₀ L s.heap ((Dt, listOf vs.toArray k) :: (I, oI) :: (c, oc) :: (base ++ (add ++ new))) := by
    intro p hp
    rcases List.mem_cons.mp hp with rfl | hp
    · exact N _ hw
    · rcases List.mem_cons.mp hp with rfl | hp
      · exact N _ hI
      · rcases List.mem_cons.mp hp with rfl | hp
        · exact N _ hc
        · exact N _ (all4 p hp).1
  refine append_K (its := vs.toArray) F N₁ (Upd.head fun p hp => ?_) (fun h' F' N' => ?_) ?_
  · rcases List.mem_cons.mp hp with rfl | hp
    · exact Ne.symm hne.2.1
    · rcases List.mem_cons.mp hp with rfl | hp
      · exact Ne.symm hne.2.2
      · exact (all4 p hp).2.2.2
  · refine h h' ((Dt, listOf (vs ++ [Value.ref Dr]).toArray (k + 1)) :: (base ++ (add ++ new))) F' (fun p hp => ?_) (fun p hp => ?_) ⟨_, _, add ++ new, rfl, ?_, fun p hp => (all4 p hp).2.2.2⟩
    · rw [List.push_toArray] at N'
      rcases List.mem_cons.mp hp with rfl | hp
      · exact N' _ (List.mem_cons_of_mem _ List.mem_cons_self)
      · rcases List.mem_cons.mp hp with rfl | hp
        · exact N' _ (List.mem_cons_of_mem _ (List.mem_cons_of_mem _ List.mem_cons_self))
        · rcases List.mem_cons.mp hp with rfl | hp
          · exact N' _ List.mem_cons_self
          · exact N' _ (List.mem_cons_of_mem _ (List.mem_cons_of_mem _ (List.mem_cons_of_mem _ hp)))
    · rcases List.mem_cons.mp hp with rfl | hp
      · exact hne.2
      · exact ⟨(all4 p hp).2.1, (all4 p hp).2.2.1⟩
    · rw [List.range_succ, List.map_append]
      exact (hD.mono fun p hp => List.mem_append_left _ hp).append (.one (hx.mono fun p hp => List.mem_append_right _ hp))
  · rw [List.size_toArray, hD.length, List.length_map, List.length_range, sizeLine_eq]
    omega
theorem turn_row {I c Dt : Addr} {oI oc : Obj} {st : List Str} {m₀ m' : Str → Option Value} {s₁ : Shared} {row : Nat → Dat} {base : List (Addr × Obj)} {i : Nat} {Q : Flow → Shared → Prop} {h' : Heap} {tk : Nat} {all : List (Addr × Obj)}
    (hJ : TabRest Dt base row i all) (F : Fr h₀ L h' m') (N : News h₀ L h' ((I, oI) :: (c, oc) :: all)) (o : Off2 I c all) (hm : ∀ y, st.contains y = false → m' y = m₀ y) :
    TurnC h₀ L I oI c oc s₁ (TabJ Dt base row st m₀ i) Q .next { s₁ with heap := h', toks := tk } := ⟨h', tk, m', all, rfl, F, N, o, hm, hJ⟩

/-- the row is a list of so many items -/
def RowOk (row : Nat → Dat) (cols : Int) (k : Nat) : Prop := ∃ r, row k = .list r ∧ (r.length : Int) = cols

theorem loop_rows {target : Expr} {body : List Stmt} {Q : Flow → Shared → Prop} {Dg : Addr} {s₁ : Shared} {m₀ : Str → Option Value} {κ kg : Nat} {ys : List Value} {add0 : List (Addr × Obj)} {row : Nat → Dat} (st : List Str) (cols : Int)
    (hG : DatAll add0 ys ((List.range κ).map row)) (hrow : ∀ k, (∃ r, row k = .list r) ∨ ∃ r, row k = .tuple r) (hg : (Dg, listOf ys.toArray kg) ∈ news) (hs0 : ∀ p ∈ add0, p ∈ news) (hh : A.handled = none) (F : Fr h₀ env.locals s₁.heap m₀) (N : News h₀ env.locals s₁.heap news)
    (turnL : ∀ (i : Nat) (a : Addr) (es : List Value) (k : Nat) (r : List Dat) (u : Str → Option Value) I oI h tk, i < κ → row i = .list r → es.length = r.length → (a, listOf (List.toArray es) k) ∈ news → Kept (∀ k < i, RowOk row cols k) → Fr h₀ env.locals h (fun y => if List.contains st y then u y else m₀ y) → News h₀ env.locals h ((I, oI) :: news) → (∀ p ∈ news, p.1 ≠ I) →
      wpAny (model prog w) A (assign target env (.ref a)) (fun _ s₂ => wpAny (model prog w) A (execs body env) (TurnG h₀ env.locals I oI st m₀ s₁ (fun nw => nw = news ∧ Kept (∀ k < i + 1, RowOk row cols k)) Q) E s₂) E { s₁ with heap := h, toks := tk })
    (turnT : ∀ (i : Nat) (a : Addr) (es : List Value) (k : Nat) (r : List Dat) (u : Str → Option Value) I oI h tk, i < κ → row i = .tuple r → (a, ({ cls := .type "tuple", data := .seq (List.toArray es) k } : Obj)) ∈ news → Fr h₀ env.locals h (fun y => if List.contains st y then u y else m₀ y) → News h₀ env.locals h ((I, oI) :: news) → (∀ p ∈ news, p.1 ≠ I) →
      wpAny (model prog w) A (assign target env (.ref a)) (fun _ s₂ => wpAny (model prog w) A (execs body env) (TurnG h₀ env.locals I oI st m₀ s₁ (fun nw => nw = news ∧ Kept (∀ k < i + 1, RowOk row cols k)) Q) E s₂) E { s₁ with heap := h, toks := tk })
    (fin : ∀ (u : Str → Option Value) h tk, Kept (∀ k < κ, RowOk row cols k) → Fr h₀ env.locals h (fun y => if List.contains st y then u y else m₀ y) → News h₀ env.locals h news → Q .next { s₁ with heap := h, toks := tk }) :
    ForListSrc prog w A h₀ env target body Q E (.ref Dg) s₁ := by
  have hlen : ys.length = κ := by rw [hG.length, List.length_map, List.length_range]
  refine ⟨Dg, ys, kg, news, m₀, st, fun i nw => nw = news ∧ Kept (∀ k < i, RowOk row cols k), rfl, hh, F, N, ?_, ⟨rfl, ⟨fun k hk => absurd hk (Nat.not_lt_zero _)⟩⟩, ?_, ?_⟩
  · rintro _ nw ⟨rfl, _⟩; exact hg
  · rintro i v u nw I oI h tk hv ⟨rfl, hK⟩ F' N' off'
    rcases datAll_get? hG i with ⟨v', d, h1, h2, h3⟩ | ⟨h1, _⟩
    · rw [hv] at h1
      cases h1
      have hi : i < κ := by
        have := (List.getElem?_eq_some_iff.mp hv).1
        omega
      rw [List.getElem?_map, List.getElem?_range hi] at h2
      have h2' : row i = d := Option.some.inj h2
      rcases hrow i with ⟨r, hr⟩ | ⟨r, hr⟩
      · rw [← h2', hr] at h3
        cases h3 with
        | list hm hd => exact turnL i _ _ _ r u I oI h tk hi hr hd.length (hs0 _ hm) hK F' N' off'
      · rw [← h2', hr] at h3
        cases h3 with
        | tuple hm hd => exact turnT i _ _ _ r u I oI h tk hi hr (hs0 _ hm) F' N' off'
    · rw [hv] at h1; cases h1
  · rintro u nw h tk ⟨rfl, hK⟩ F' N'
    rw [hlen] at hK
    exact fin u h tk hK F' N'

theorem ne_dat {va vb : Value} {d : Dat} {n₁ n₂ : List (Addr × Obj)} {Q : Value → Shared → Prop} (N : News h₀ L s.heap news) (Da : DatIn n₁ va d) (sa : ∀ p ∈ n₁, p ∈ news) (Db : DatIn n₂ vb d) (sb : ∀ p ∈ n₂, p ∈ news)
    (hok : kqdOk 9 d = true) (hu : A.units + 64 < cLine) (h : Q (.bool false) s) : wpAny (model prog w) A (compareOp .NotEq va vb) Q E s := by
  obtain ⟨as, ra⟩ := kqd_in N 9 (Da.mono sa) hok
  obtain ⟨bs, rb⟩ := kqd_in N 9 (Db.mono sb) hok
  have la := kqd_lay 9 d hok
  have e : PyData.eqv (kqdP d) (kqdP d) = true := (kqd_eqv 9 d d 9 hok hok).mpr rfl
  have sh : SeqAt.shaped (kqdP d) = true := by unfold SeqAt.shaped; rw [la.1, Bool.true_and]; exact decide_eq_true (Nat.le_trans la.2 (by decide))
  exact ne_dataH ra rb sh sh hu (by rw [e]; exact h)
theorem ne_sameT {a b : Addr} {na nb : Nat} {n₁ n₂ : List (Addr × Obj)} {xs ys : List Value} {ds : List Dat} {Q : Value → Shared → Prop} (N : News h₀ L s.heap news) (ma : (a, ({ cls := .type "tuple", data := .seq xs.toArray na } : Obj)) ∈ news) (Da : DatAll n₁ xs ds) (sa : ∀ p ∈ n₁, p ∈ news)
    (mb : (b, ({ cls := .type "tuple", data := .seq ys.toArray nb } : Obj)) ∈ news) (Db : DatAll n₂ ys ds) (sb : ∀ p ∈ n₂, p ∈ news)
    (hok : ∀ d ∈ ds, kqdOk 8 d = true) (hu : A.units + 64 < cLine) (h : Q (.bool false) s) : wpAny (model prog w) A (compareOp .NotEq (.ref a) (.ref b)) Q E s :=
  ne_dat (n₁ := news) (n₂ := news) (d := .tuple ds) N (.tuple ma (Da.mono sa)) (fun _ h => h) (.tuple mb (Db.mono sb)) (fun _ h => h) (by simp only [kqdOk, List.all_eq_true]; exact hok) hu h
end
theorem rowT_two (ns : List Int) (W S CASE AT : Int) (k : Nat) : (∃ r, rowT ns W S CASE AT k = .list r) ∨ ∃ r, rowT ns W S CASE AT k = .tuple r := by
  unfold rowT
  split
  · exact .inr ⟨_, rfl⟩
  · exact .inl ⟨_, rfl⟩
theorem rowT_ok (ns : List Int) (W S CASE AT : Int) (n : Nat) : ∀ d ∈ (List.range n).map (rowT ns W S CASE AT), kqdOk 8 d = true := by
  intro d hd
  obtain ⟨i, _, rfl⟩ := List.mem_map.mp hd
  have h : ∀ e ∈ rowL ns W S CASE AT i, kqdOk 7 e = true := by
    intro e he
    obtain ⟨j, _, rfl⟩ := List.mem_map.mp he
    exact pair_ok ⟨_, _, rfl⟩ 6
  unfold rowT
  split
  · simp only [kqdOk, List.all_eq_true]; exact h
  · simp only [kqdOk, List.all_eq_true]; exact h
theorem rowOk_iff {ns : List Int} {W S CASE AT c : Int} {k : Nat} (h0 : 0 ≤ W) (h4 : CASE = 4 → 0 ≤ W + S) :
    RowOk (rowT ns W S CASE AT) c k ↔ (¬ (CASE = 5 ∧ 0 + (k : Int) = AT) ∧ (if CASE = 4 ∧ 0 + (k : Int) = AT then W + S else W) = c) := by
  have hz : 0 ≤ sizeT W S CASE AT k := by
    unfold sizeT
    split
    · rename_i h; exact h4 h.1
    · exact h0
  have hl : ((rowL ns W S CASE AT k).length : Int) = sizeT W S CASE AT k := by
    unfold rowL
    rw [List.length_map, List.length_range]
    omega
  unfold RowOk rowT
  by_cases h5 : CASE = 5 ∧ 0 + (k : Int) = AT
  · rw [if_pos h5]
    constructor
    · rintro ⟨r, e, _⟩; cases e
    · rintro ⟨h, _⟩; exact absurd h5 h
  · rw [if_neg h5]
    constructor
    · rintro ⟨r, e, hc⟩
      cases e
      exact ⟨h5, by rw [← hc, hl]; rfl⟩
    · rintro ⟨_, hc⟩
      exact ⟨_, rfl, by rw [hl]; exact hc⟩
theorem step_pm (x : Int) : x.fmod 2 * 2 - 1 = 1 ∨ x.fmod 2 * 2 - 1 = -1 := by
  have h1 := fmod_lo x (n := 2) (by decide)
  have h2 := fmod_hi x (n := 2) (by decide)
  omega

/-- what the law's branches leave -/
structure Facts (CASE N S W W0 RAW AT r2 c7 : Int) (z7 : Bool) : Prop where
  out : ∃ (r1 c3 : Int) (z1 z2 z3 z4 z6 : Bool), (S = 1 ∨ S = -1) ∧ 0 ≤ N ∧ 0 ≤ AT ∧ AT ≤ N ∧ 0 ≤ W0 ∧ ((CASE = 4 ∧ W = W0 + 1) ∨ (¬ CASE = 4 ∧ W = W0)) ∧
    ((CASE = 1 ∧ r1 = N + S ∧ z1 = false) ∨ (¬ CASE = 1 ∧ r1 = N ∧ z1 = true)) ∧
    ((CASE = 2 ∧ r2 = RAW ∧ (z2 = true ↔ RAW = N)) ∨ (¬ CASE = 2 ∧ r2 = r1 ∧ z2 = z1)) ∧
    ((CASE = 3 ∧ c3 = W + S ∧ (z3 = true ↔ N = 0)) ∨ (¬ CASE = 3 ∧ c3 = W ∧ z3 = z2)) ∧
    (((CASE = 4 ∨ CASE = 5) ∧ (z4 = true ↔ AT = N)) ∨ (¬ (CASE = 4 ∨ CASE = 5) ∧ z4 = z3)) ∧
    ((CASE = 6 ∧ z6 = false) ∨ (¬ CASE = 6 ∧ z6 = z4)) ∧
    ((CASE = 7 ∧ c7 = RAW ∧ (z7 = true ↔ N = 0 ∨ RAW = W)) ∨ (¬ CASE = 7 ∧ c7 = c3 ∧ z7 = z6))
theorem Facts.of {CASE N S W W0 RAW AT r1 r2 c3 c7 : Int} {z1 z2 z3 z4 z6 z7 : Bool} (hS : S = 1 ∨ S = -1) (hN : 0 ≤ N) (hA : 0 ≤ AT) (hA2 : AT ≤ N) (hW0 : 0 ≤ W0) (J1 : (CASE = 4 ∧ W = W0 + 1) ∨ (¬ CASE = 4 ∧ W = W0))
    (K1 : Kept ((CASE = 1 ∧ (r1 = N + S ∧ z1 = false)) ∨ (¬ CASE = 1 ∧ r1 = N ∧ z1 = true)))
    (K2 : Kept ((CASE = 2 ∧ (r2 = RAW ∧ (z2 = true ↔ RAW = N))) ∨ (¬ CASE = 2 ∧ r2 = r1 ∧ z2 = z1)))
    (K3 : Kept ((CASE = 3 ∧ (c3 = W + S ∧ (z3 = true ↔ N = 0))) ∨ (¬ CASE = 3 ∧ c3 = W ∧ z3 = z2)))
    (K4 : Kept (((CASE = 4 ∨ CASE = 5) ∧ (z4 = true ↔ AT = N)) ∨ (¬ (CASE = 4 ∨ CASE = 5) ∧ z4 = z3)))
    (K6 : Kept ((CASE = 6 ∧ z6 = false) ∨ (¬ CASE = 6 ∧ z6 = z4)))
    (K7 : Kept ((CASE = 7 ∧ (c7 = RAW ∧ (z7 = true ↔ N = 0 ∨ RAW = W))) ∨ (¬ CASE = 7 ∧ c7 = c3 ∧ z7 = z6))) : Facts CASE N S W W0 RAW AT r2 c7 z7 :=
  ⟨r1, c3, z1, z2, z3, z4, z6, hS, hN, hA, hA2, hW0, J1, K1.out, K2.out, K3.out, K4.out, K6.out, K7.out⟩
theorem Facts.iff {CASE N S W W0 RAW AT r2 c7 : Int} {z7 : Bool} (h : Facts CASE N S W W0 RAW AT r2 c7 z7) (ns : List Int) : z7 = true ↔ (CASE ≠ 6 ∧ N = r2 ∧ ∀ k : Nat, k < N.toNat → RowOk (rowT ns W S CASE AT) c7 k) := by
  obtain ⟨r1, c3, z1, z2, z3, z4, z6, hS, hN, hA, hA2, hW0, J1, K1, K2, K3, K4, K6, K7⟩ := h.out
  rw [want_plain hS hN hA hA2 hW0 J1 K1 K2 K3 K4 K6 K7]
  have hk : ∀ k : Nat, RowOk (rowT ns W S CASE AT) c7 k ↔ _ := fun k => rowOk_iff (by omega) (by omega)
  simp only [hk]
theorem Facts.at6 {CASE N S W W0 RAW AT r2 c7 : Int} {z7 : Bool} (h : Facts CASE N S W W0 RAW AT r2 c7 z7) (h6 : CASE = 6) : z7 = false := by
  cases z7 with
  | false => rfl
  | true => exact absurd h6 ((h.iff []).mp rfl).1
theorem Facts.atRows {CASE N S W W0 RAW AT r2 c7 : Int} {z7 : Bool} (h : Facts CASE N S W W0 RAW AT r2 c7 z7) (hn : ¬ N = r2) : z7 = false := by
  cases z7 with
  | false => rfl
  | true => exact absurd ((h.iff []).mp rfl).2.1 hn
theorem Facts.atRow {CASE N S W W0 RAW AT r2 c7 : Int} {z7 : Bool} {ns : List Int} {i : Nat} (h : Facts CASE N S W W0 RAW AT r2 c7 z7) (hi : i < N.toNat) (hr : ¬ RowOk (rowT ns W S CASE AT) c7 i) : z7 = false := by
  cases z7 with
  | false => rfl
  | true => exact absurd (((h.iff ns).mp rfl).2.2 i hi) hr
theorem Facts.atAll {CASE N S W W0 RAW AT r2 c7 : Int} {z7 : Bool} {ns : List Int} (h : Facts CASE N S W W0 RAW AT r2 c7 z7) (h6 : ¬ CASE = 6) (hn : N = r2) (hr : Kept (∀ k : Nat, k < N.toNat → RowOk (rowT ns W S CASE AT) c7 k)) : z7 = true := (h.iff ns).mpr ⟨h6, hn, hr.out⟩
theorem bnd_w {x r : Int} (h : x.fmod 5 ≤ r ∧ r ≤ x.fmod 5 + 1) : 0 ≤ r ∧ r ≤ 5 := by
  have h1 := fmod_lo x (n := 5) (by decide)
  have h2 := fmod_hi x (n := 5) (by decide)
  omega
theorem bnd_s (x : Int) : -1 ≤ x.fmod 2 * 2 - 1 ∧ x.fmod 2 * 2 - 1 ≤ 1 := by
  have h1 := fmod_lo x (n := 2) (by decide)
  have h2 := fmod_hi x (n := 2) (by decide)
  omega
theorem f5 (y : Int) : (((y.fmod 5).toNat : Nat) : Int) = y.fmod 5 := Int.toNat_of_nonneg (fmod_lo y (by decide))
theorem k5_8 (y : Int) : (y.fmod 5).toNat < 8 := by
  have h2 := fmod_hi y (n := 5) (by decide)
  omega
theorem size_no {W S CASE AT : Int} {i : Nat} (h : ¬ (CASE = 4 ∧ 0 + (i : Int) = AT)) : W = sizeT W S CASE AT i := by unfold sizeT; rw [if_neg h]
theorem size_yes {W S CASE AT : Int} {i : Nat} (h : CASE = 4 ∧ 0 + (i : Int) = AT) : W + S = sizeT W S CASE AT i := by unfold sizeT; rw [if_pos h]
section
variable {prog : Program} {w : World} {A : Around} {E : Value → Shared → Prop} {s : Shared} {h₀ : Heap} {L : Addr} {m : Str → Option Value} {env : Env} {news : List (Addr × Obj)}
theorem allLt_mem' {D : Addr} {l : List (Addr × Obj)} (h : AllLt D l) : ∀ p ∈ l, p.1 < D := allLt_mem h
theorem loop_table1 {body : List Stmt} {Q : Flow → Shared → Prop} {r Dt c cs L₀ : Addr} {b W S CASE AT : Int} {t u v tw ts tc ta : Tok} {s₁ : Shared} {m₀ : Str → Option Value} {kt : Nat} {oc₀ ocs : Obj} {vc₀ : Option Value} {ns : List Int} {ivs : List Value} {N₀ : Int} {rest : List (Addr × Obj)}
    (_hI : IntsAre ivs ns) (_hW : m₀ (Str.ofString "w") = some (.int W tw)) (_hS : m₀ (Str.ofString "step") = some (.int S ts)) (_hC : m₀ (Str.ofString "case") = some (.int CASE tc)) (_hA : m₀ (Str.ofString "at") = some (.int AT ta)) (bW : 0 ≤ W ∧ W ≤ 5) (bS : -1 ≤ S ∧ S ≤ 1)
    (hh : A.handled = none) (F : Fr h₀ env.locals s₁.heap m₀) (N : News h₀ env.locals s₁.heap ((Dt, listOf (List.toArray ([] : List Value)) kt) :: (c, oc₀) :: (cs, ocs) :: rest)) (hcd : oc₀.data = .cell vc₀) (hlt : AllLt Dt ((c, oc₀) :: (cs, ocs) :: rest)) (hcL : c = L₀ + 1 + 1) (hsL : cs = L₀ + 1) (hL : AllLt L₀ rest)
    (hr : IsRange s₁.heap r 0 b 1 t u v) (hb : b = N₀.fmod 5)
    (turn : ∀ (i : Nat) (u : Str → Option Value) (t : Tok) vs k add I oI (oc : Obj) h tk, i < (N₀.fmod 5).toNat → DatAll add vs ((List.range i).map (rowT ns W S CASE AT)) → oc.data = .cell (some (.int (0 + (i : Int)) t)) → Fr h₀ env.locals h (fun y => if List.contains [Str.ofString "size", Str.ofString "row"] y then u y else m₀ y) → News h₀ env.locals h ((I, oI) :: (c, oc) :: (Dt, listOf (List.toArray vs) k) :: (cs, ocs) :: (rest ++ add)) →
      ((@Ne Nat I c) ∧ (@Ne Nat Dt I) ∧ (@Ne Nat Dt c)) → (∀ p ∈ (cs, ocs) :: (rest ++ add), p.1 ≠ I ∧ p.1 ≠ c ∧ p.1 ≠ Dt) → (0 ≤ W ∧ W ≤ 5) → (-1 ≤ S ∧ S ≤ 1) →
      wpAny (model prog w) A (execs body env) (TurnC h₀ env.locals I oI c oc s₁ (TabJ Dt ((cs, ocs) :: rest) (rowT ns W S CASE AT) [Str.ofString "size", Str.ofString "row"] m₀ (i + 1)) Q) E { s₁ with heap := h, toks := tk })
    (fin : ∀ (u : Str → Option Value) vs k add (oc : Obj) vc h tk, DatAll add vs ((List.range (N₀.fmod 5).toNat).map (rowT ns W S CASE AT)) → oc.data = .cell vc → Fr h₀ env.locals h (fun y => if List.contains [Str.ofString "size", Str.ofString "row"] y then u y else m₀ y) → News h₀ env.locals h ((c, oc) :: (Dt, listOf (List.toArray vs) k) :: (cs, ocs) :: (rest ++ add)) → Q .next { s₁ with heap := h, toks := tk }) :
    ForCellSrc prog w A h₀ env c body Q E (.ref r) s₁ := by
  have lt := allLt_mem hlt
  have e1 : c < Dt := lt (c, oc₀) List.mem_cons_self
  have e2 : cs < Dt := lt (cs, ocs) (List.mem_cons_of_mem _ List.mem_cons_self)
  refine loop_table (base := (cs, ocs) :: rest) (κ := (N₀.fmod 5).toNat) (rowT ns W S CASE AT) [Str.ofString "size", Str.ofString "row"] hh F N (List.mem_cons_of_mem _ List.mem_cons_self) hcd List.mem_cons_self (Ne.symm (Nat.ne_of_lt e1)) (fun p hp => List.mem_cons_of_mem _ (List.mem_cons_of_mem _ hp)) (fun p hp => ?_) hr (hb.trans (f5 N₀).symm) (k5_8 N₀) ?_ ?_
  · rcases List.mem_cons.mp hp with rfl | hp
    · refine ⟨?_, Nat.ne_of_lt e2⟩
      show cs ≠ c
      rw [hcL, hsL]
      exact Nat.ne_of_lt (Nat.lt_succ_self _)
    · have e3 : p.1 < L₀ := allLt_mem hL p hp
      refine ⟨?_, Nat.ne_of_lt (lt p (List.mem_cons_of_mem _ (List.mem_cons_of_mem _ hp)))⟩
      rw [hcL]
      exact Nat.ne_of_lt (Nat.lt_of_lt_of_le e3 (Nat.le_trans (Nat.le_succ _) (Nat.le_succ _)))
  · intro i u t vs k add I oI oc h tk hi hD hd F' N' hne ho'
    exact turn i u t vs k add I oI oc h tk hi hD hd F' N' hne ho' bW bS
  · intro u vs k add oc vc h tk hD hd F' N' _
    exact fin u vs k add oc vc h tk hD hd F' N'
theorem src_row {elt : Expr} {xn : Str} {scope : Scope} {cl : List (Str × Addr)} {oc : Obj} {tj : Tok} {i : Nat} {Fin : Shared → List Value → List (Addr × Obj) → Prop} {r : Addr} {b : Int} {t u v : Tok} {s₁ : Shared} {ns : List Int} {ivs : List Value}
    (_hI : IntsAre ivs ns) (_hcd : oc.data = .cell (some (.int (0 + (i : Int)) tj))) (hh : A.handled = none) (F : Fr h₀ L s₁.heap m) (N : News h₀ L s₁.heap news) (hr : IsRange s₁.heap r 0 b 1 t u v) (hb : -1 ≤ b ∧ b ≤ 8)
    (turn : ∀ j ys ds add t I oI C oC D m₂ h tk (E' : Value → Shared → Prop), j < b.toNat → PrRow (cellF ns i) j ds → NsObj oC m₂ → m₂ xn = some (.int (0 + (j : Int)) t) → Fr h₀ L h m → News h₀ L h ((I, oI) :: (C, oC) :: (D, lst ys) :: (news ++ add)) →
      wpAny (model prog w) A (eval elt (compEnvC scope cl C env)) (Made h₀ L m { s₁ with heap := h, toks := tk } ((I, oI) :: (C, oC) :: (D, lst ys) :: (news ++ add)) (fun y add2 => ∃ d, DatIn (([] ++ add) ++ add2) y d ∧ PrRow (cellF ns i) (j + 1) (ds ++ [d]))) E' { s₁ with heap := h, toks := tk })
    (fin : ∀ g' ys add, DatAll add ys ((List.range b.toNat).map (cellF ns i)) → (∀ p ∈ add, ∀ q ∈ news, p.1 ≠ q.1) → Fin { s₁ with heap := g' } ys (news ++ add)) :
    CompSrc prog w A h₀ L m env elt xn scope cl Fin (.ref r) s₁ := by
  have e : (b - 0).toNat = b.toNat := by omega
  exact src_range (n := b.toNat) (PrRow (cellF ns i)) [] hh F N hr (small_one (by omega) (by omega) (by omega) (by omega)) (by rw [rangeSize_nat, e]) (by rw [sizeLine_eq]; omega) rfl
    (fun j ys ds add t I oI C oC D m₂ h tk E' hj _ hp _ hC hx F' N' => turn j ys ds add t I oI C oC D m₂ h tk E' hj hp hC hx F' N')
    fun g' ys ds add _ hp hD hO => fin g' ys add (by rw [PrRow] at hp; rw [hp, List.nil_append] at hD; exact hD) hO
theorem tuple_dat {Q : Value → Shared → Prop} {l : Addr} {vs : List Value} {k n : Nat} {tl : List (Addr × Obj)} {f : Nat → Dat} (F : Fr h₀ L s.heap m) (N : News h₀ L s.heap news) (hm : (l, ({ cls := .type "list", data := .seq vs.toArray k } : Obj)) ∈ news) (hd : DatAll tl vs ((List.range n).map f)) (hn : n ≤ 64)
    (h : ∀ D h', Fr h₀ L h' m → News h₀ L h' ((D, ({ cls := .type "tuple", data := .seq vs.toArray } : Obj)) :: news) → (∀ p ∈ news, p.1 < D) → Q (.ref D) { s with heap := h' }) : wpAny (model prog w) A (call (.type "tuple") [.ref l]) Q E s :=
  kde_tupleOf F N (News.isList N hm) (by rw [List.size_toArray, hd.length, List.length_map, List.length_range]; omega) rfl h
theorem append_rowL {Q : Value → Shared → Prop} {I Dt Dr c cs : Addr} {oI oc ocs : Obj} {vs ys : List Value} {k kr i : Nat} {rest add add2 nw0 : List (Addr × Obj)} {ns : List Int} {W S CASE AT b N₀ : Int}
    (hne : (@Ne Nat I c) ∧ (@Ne Nat Dt I) ∧ (@Ne Nat Dt c)) (ho : ∀ p ∈ (cs, ocs) :: (rest ++ add), p.1 ≠ I ∧ p.1 ≠ c ∧ p.1 ≠ Dt) (hD : DatAll add vs ((List.range i).map (rowT ns W S CASE AT))) (hi : i < (N₀.fmod 5).toNat) (F : Fr h₀ L s.heap m) (N : News h₀ L s.heap news) (hI : (I, oI) ∈ news) (hc : (c, oc) ∈ news) (hw : (Dt, listOf vs.toArray k) ∈ news) (hb : ∀ p ∈ (cs, ocs) :: (rest ++ add), p ∈ news)
    (hrow : DatAll add2 ys ((List.range b.toNat).map (cellF ns i))) (hO : ∀ p ∈ add2, ∀ q ∈ nw0, p.1 ≠ q.1) (hI0 : (I, oI) ∈ nw0) (hc0 : (c, oc) ∈ nw0) (hw0 : (Dt, listOf vs.toArray k) ∈ nw0) (hl : (Dr, listOf ys.toArray kr) ∈ news) (h2 : ∀ p ∈ add2, p ∈ news)
    (hz : b = sizeT W S CASE AT i) (h5 : ¬ (CASE = 5 ∧ 0 + (i : Int) = AT)) (e : (@Ne Nat Dr I) ∧ (@Ne Nat Dr c) ∧ (@Ne Nat Dr Dt))
    (h : ∀ h' all, Fr h₀ L h' m → News h₀ L h' ((I, oI) :: (c, oc) :: all) → Off2 I c all → TabRest Dt ((cs, ocs) :: rest) (rowT ns W S CASE AT) (i + 1) all → Q .none { s with heap := h' }) :
    wpAny (model prog w) A (call (.builtin "list.append") [.ref Dt, .ref Dr]) Q E s := by
  have h8 := k5_8 N₀
  refine append_row (base := (cs, ocs) :: rest) (new := (Dr, listOf ys.toArray kr) :: add2) hD (by omega) F N hI hc hw hb hne ho ?_ ?_ ?_ h
  · unfold rowT
    rw [if_neg h5]
    refine DatIn.list List.mem_cons_self ?_
    unfold rowL
    rw [← hz]
    exact hrow.mono fun p hp => List.mem_cons_of_mem _ hp
  · intro p hp
    rcases List.mem_cons.mp hp with rfl | hp
    · exact hl
    · exact h2 p hp
  · intro p hp
    rcases List.mem_cons.mp hp with rfl | hp
    · exact e
    · exact ⟨hO p hp _ hI0, hO p hp _ hc0, hO p hp _ hw0⟩
theorem append_rowT {Q : Value → Shared → Prop} {I Dt Dr c cs : Addr} {oI oc ocs : Obj} {vs ys : List Value} {k kr i : Nat} {rest add add2 nw0 : List (Addr × Obj)} {ns : List Int} {W S CASE AT b N₀ : Int}
    (hne : (@Ne Nat I c) ∧ (@Ne Nat Dt I) ∧ (@Ne Nat Dt c)) (ho : ∀ p ∈ (cs, ocs) :: (rest ++ add), p.1 ≠ I ∧ p.1 ≠ c ∧ p.1 ≠ Dt) (hD : DatAll add vs ((List.range i).map (rowT ns W S CASE AT))) (hi : i < (N₀.fmod 5).toNat) (F : Fr h₀ L s.heap m) (N : News h₀ L s.heap news) (hI : (I, oI) ∈ news) (hc : (c, oc) ∈ news) (hw : (Dt, listOf vs.toArray k) ∈ news) (hb : ∀ p ∈ (cs, ocs) :: (rest ++ add), p ∈ news)
    (hrow : DatAll add2 ys ((List.range b.toNat).map (cellF ns i))) (hO : ∀ p ∈ add2, ∀ q ∈ nw0, p.1 ≠ q.1) (hI0 : (I, oI) ∈ nw0) (hc0 : (c, oc) ∈ nw0) (hw0 : (Dt, listOf vs.toArray k) ∈ nw0) (hl : (Dr, ({ cls := .type "tuple", data := .seq ys.toArray kr } : Obj)) ∈ news) (h2 : ∀ p ∈ add2, p ∈ news)
    (hz : b = sizeT W S CASE AT i) (h5 : CASE = 5 ∧ 0 + (i : Int) = AT) (e : (@Ne Nat Dr I) ∧ (@Ne Nat Dr c) ∧ (@Ne Nat Dr Dt))
    (h : ∀ h' all, Fr h₀ L h' m → News h₀ L h' ((I, oI) :: (c, oc) :: all) → Off2 I c all → TabRest Dt ((cs, ocs) :: rest) (rowT ns W S CASE AT) (i + 1) all → Q .none { s with heap := h' }) :
    wpAny (model prog w) A (call (.builtin "list.append") [.ref Dt, .ref Dr]) Q E s := by
  have h8 := k5_8 N₀
  refine append_row (base := (cs, ocs) :: rest) (new := (Dr, ({ cls := .type "tuple", data := .seq ys.toArray kr } : Obj)) :: add2) hD (by omega) F N hI hc hw hb hne ho ?_ ?_ ?_ h
  · unfold rowT
    rw [if_pos h5]
    refine DatIn.tuple List.mem_cons_self ?_
    unfold rowL
    rw [← hz]
    exact hrow.mono fun p hp => List.mem_cons_of_mem _ hp
  · intro p hp
    rcases List.mem_cons.mp hp with rfl | hp
    · exact hl
    · exact h2 p hp
  · intro p hp
    rcases List.mem_cons.mp hp with rfl | hp
    · exact e
    · exact ⟨hO p hp _ hI0, hO p hp _ hc0, hO p hp _ hw0⟩
end
theorem ite_ne {g z : Bool} {P R : Prop} [Decidable ((g != z) = true)] (h : z = g) (hR : R) : if (g != z) = true then P else R := by
  subst h
  rw [if_neg (by simp)]
  exact hR
theorem at_two (x y : Int) : 0 ≤ x.fmod (y.fmod 5 + 1) ∧ x.fmod (y.fmod 5 + 1) ≤ y.fmod 5 := by
  have h1 := fmod_lo y (n := 5) (by decide)
  have h2 := Int.fmod_nonneg_of_pos x (b := y.fmod 5 + 1) (by omega)
  have h3 := Int.fmod_lt_of_pos x (b := y.fmod 5 + 1) (by omega)
  omega
theorem Facts.at {x0 x1 x2 x3 x4 W r1 r2 c3 c7 : Int} {z1 z2 z3 z4 z6 z7 : Bool}
    (K7 : Kept ((x2.fmod 8 = 7 ∧ (c7 = x4 ∧ (z7 = true ↔ x0.fmod 5 = 0 ∨ x4 = W))) ∨ (¬ x2.fmod 8 = 7 ∧ c7 = c3 ∧ z7 = z6)))
    (K6 : Kept ((x2.fmod 8 = 6 ∧ z6 = false) ∨ (¬ x2.fmod 8 = 6 ∧ z6 = z4)))
    (K4 : Kept (((x2.fmod 8 = 4 ∨ x2.fmod 8 = 5) ∧ (z4 = true ↔ x3.fmod (x0.fmod 5 + 1) = x0.fmod 5)) ∨ (¬ (x2.fmod 8 = 4 ∨ x2.fmod 8 = 5) ∧ z4 = z3)))
    (K3 : Kept ((x2.fmod 8 = 3 ∧ (c3 = W + (x4.fmod 2 * 2 - 1) ∧ (z3 = true ↔ x0.fmod 5 = 0))) ∨ (¬ x2.fmod 8 = 3 ∧ c3 = W ∧ z3 = z2)))
    (K2 : Kept ((x2.fmod 8 = 2 ∧ (r2 = x4 ∧ (z2 = true ↔ x4 = x0.fmod 5))) ∨ (¬ x2.fmod 8 = 2 ∧ r2 = r1 ∧ z2 = z1)))
    (K1 : Kept ((x2.fmod 8 = 1 ∧ (r1 = x0.fmod 5 + (x4.fmod 2 * 2 - 1) ∧ z1 = false)) ∨ (¬ x2.fmod 8 = 1 ∧ r1 = x0.fmod 5 ∧ z1 = true)))
    (J1 : (x2.fmod 8 = 4 ∧ W = x1.fmod 5 + 1) ∨ (¬ x2.fmod 8 = 4 ∧ W = x1.fmod 5)) :
    Facts (x2.fmod 8) (x0.fmod 5) (x4.fmod 2 * 2 - 1) W (x1.fmod 5) x4 (x3.fmod (x0.fmod 5 + 1)) r2 c7 z7 :=
  Facts.of (step_pm _) (fmod_lo _ (by decide)) (at_two _ _).1 (at_two _ _).2 (fmod_lo _ (by decide)) J1 K1 K2 K3 K4 K6 K7
theorem not_okL {row : Nat → Dat} {c : Int} {i : Nat} {r : List Dat} (h : row i = .list r) (hn : ¬ (r.length : Int) = c) : ¬ RowOk row c i := by
  rintro ⟨r', e, hc⟩
  rw [h] at e
  cases e
  exact hn hc
theorem not_okT {row : Nat → Dat} {c : Int} {i : Nat} {r : List Dat} (h : row i = .tuple r) : ¬ RowOk row c i := by
  rintro ⟨r', e, hc⟩
  rw [h] at e
  cases e
theorem ok_succ {row : Nat → Dat} {c : Int} {i : Nat} {r : List Dat} (hK : Kept (∀ k < i, RowOk row c k)) (h : row i = .list r) (hc : (r.length : Int) = c) : Kept (∀ k < i + 1, RowOk row c k) := by
  refine ⟨fun k hk => ?_⟩
  by_cases e : k = i
  · subst e; exact ⟨r, h, hc⟩
  · exact hK.out k (by omega)
theorem row_le {ns : List Int} {W S CASE AT : Int} (bW : 0 ≤ W ∧ W ≤ 5) (bS : -1 ≤ S ∧ S ≤ 1) {k : Nat} {r : List Dat} (h : rowT ns W S CASE AT k = .list r) : r.length ≤ 64 := by
  have hl : (rowL ns W S CASE AT k).length ≤ 64 := by
    unfold rowL sizeT
    rw [List.length_map, List.length_range]
    split <;> omega
  unfold rowT at h
  split at h
  · cases h
  · cases h; exact hl
section
variable {prog : Program} {w : World} {A : Around} {E : Value → Shared → Prop} {s : Shared} {h₀ : Heap} {L : Addr} {m : Str → Option Value} {env : Env} {news : List (Addr × Obj)} {Q : Value → Shared → Prop}
theorem len_m {l : Addr} {vs : List Value} {k : Nat} {x : Int} {tl : List (Addr × Obj)} {f : Nat → Dat} (N : News h₀ L s.heap news) (hm : (l, listOf vs.toArray k) ∈ news) (hd : DatAll tl vs ((List.range (x.fmod 5).toNat).map f)) (h : Q (.int (x.fmod 5) (s.toks + 1)) { s with toks := s.toks + 1 + 1 }) :
    wpAny (model prog w) A (call (.builtin "len") [.ref l]) Q E s := by
  have e : vs.toArray.size = (x.fmod 5).toNat := by rw [List.size_toArray, hd.length, List.length_map, List.length_range]
  have h8 := k5_8 x
  refine Calls.call_len_list (N.isList hm) (by rw [e]; omega) ?_
  rw [e, f5]
  exact h
theorem len_row {l : Addr} {es : List Value} {k : Nat} {r : List Dat} (N : News h₀ L s.heap news) (hm : (l, listOf es.toArray k) ∈ news) (he : es.length = r.length) (hr : r.length ≤ 64) (h : Q (.int (r.length : Int) (s.toks + 1)) { s with toks := s.toks + 1 + 1 }) :
    wpAny (model prog w) A (call (.builtin "len") [.ref l]) Q E s := by
  have e : es.toArray.size = r.length := by rw [List.size_toArray, he]
  refine Calls.call_len_list (N.isList hm) (by rw [e]; omega) ?_
  rw [e]
  exact h
theorem loop_rows1 {target : Expr} {body : List Stmt} {Q : Flow → Shared → Prop} {Dg : Addr} {s₁ : Shared} {m₀ : Str → Option Value} {κ kg : Nat} {ys : List Value} {add0 : List (Addr × Obj)} {ns : List Int} {W S CASE AT cols : Int} {tc : Tok}
    (hg : (Dg, listOf ys.toArray kg) ∈ news) (hG : DatAll add0 ys ((List.range κ).map (rowT ns W S CASE AT))) (_hc : m₀ (Str.ofString "cols") = some (.int cols tc)) (bW : 0 ≤ W ∧ W ≤ 5) (bS : -1 ≤ S ∧ S ≤ 1) (hs0 : ∀ p ∈ add0, p ∈ news) (hh : A.handled = none) (F : Fr h₀ env.locals s₁.heap m₀) (N : News h₀ env.locals s₁.heap news)
    (turnL : ∀ (i : Nat) (a : Addr) (es : List Value) (k : Nat) (r : List Dat) (u : Str → Option Value) I oI h tk, i < κ → rowT ns W S CASE AT i = .list r → es.length = r.length → r.length ≤ 64 → (a, listOf (List.toArray es) k) ∈ news → Kept (∀ k < i, RowOk (rowT ns W S CASE AT) cols k) → Fr h₀ env.locals h (fun y => if List.contains [Str.ofString "row"] y then u y else m₀ y) → News h₀ env.locals h ((I, oI) :: news) → (∀ p ∈ news, p.1 ≠ I) →
      wpAny (model prog w) A (assign target env (.ref a)) (fun _ s₂ => wpAny (model prog w) A (execs body env) (TurnG h₀ env.locals I oI [Str.ofString "row"] m₀ s₁ (fun nw => nw = news ∧ Kept (∀ k < i + 1, RowOk (rowT ns W S CASE AT) cols k)) Q) E s₂) E { s₁ with heap := h, toks := tk })
    (turnT : ∀ (i : Nat) (a : Addr) (es : List Value) (k : Nat) (r : List Dat) (u : Str → Option Value) I oI h tk, i < κ → rowT ns W S CASE AT i = .tuple r → (a, ({ cls := .type "tuple", data := .seq (List.toArray es) k } : Obj)) ∈ news → Fr h₀ env.locals h (fun y => if List.contains [Str.ofString "row"] y then u y else m₀ y) → News h₀ env.locals h ((I, oI) :: news) → (∀ p ∈ news, p.1 ≠ I) →
      wpAny (model prog w) A (assign target env (.ref a)) (fun _ s₂ => wpAny (model prog w) A (execs body env) (TurnG h₀ env.locals I oI [Str.ofString "row"] m₀ s₁ (fun nw => nw = news ∧ Kept (∀ k < i + 1, RowOk (rowT ns W S CASE AT) cols k)) Q) E s₂) E { s₁ with heap := h, toks := tk })
    (fin : ∀ (u : Str → Option Value) h tk, Kept (∀ k < κ, RowOk (rowT ns W S CASE AT) cols k) → Fr h₀ env.locals h (fun y => if List.contains [Str.ofString "row"] y then u y else m₀ y) → News h₀ env.locals h news → Q .next { s₁ with heap := h, toks := tk }) :
    ForListSrc prog w A h₀ env target body Q E (.ref Dg) s₁ :=
  loop_rows [Str.ofString "row"] cols hG (rowT_two ns W S CASE AT) hg hs0 hh F N (fun i a es k r u I oI h tk hi hr he hm hK F' N' o' => turnL i a es k r u I oI h tk hi hr he (row_le bW bS hr) hm hK F' N' o') turnT fin
theorem turn_ok {I : Addr} {oI : Obj} {st : List Str} {m₀ m' : Str → Option Value} {s₁ : Shared} {K : Prop} {Q : Flow → Shared → Prop} {h' : Heap} {tk : Nat} {all nw : List (Addr × Obj)}
    (hK : K) (F : Fr h₀ L h' m') (N : News h₀ L h' all) (hs : ∀ p ∈ (I, oI) :: nw, p ∈ all) (o : ∀ p ∈ nw, p.1 ≠ I) (hm : ∀ y, st.contains y = false → m' y = m₀ y) :
    TurnG h₀ L I oI st m₀ s₁ (fun nw' => nw' = nw ∧ K) Q .next { s₁ with heap := h', toks := tk } := ⟨h', tk, m', nw, rfl, F, fun p hp => N p (hs p hp), o, hm, rfl, hK⟩
end
theorem no_case6 {x : Int} (h : x.fmod 8 = 6) (h' : ¬ x.fmod 8 = 6) : False := h' h
end Mine

open PySem PySem.W PyProof.Rows
set_option Elab.async false
local macro_rules | `(tactic| walk_at "exec If") => `(tactic| (k_here; (with_reducible show wpAny _ _ (exec (Stmt.If _ [Stmt.Assign [Expr.Name (Str.ofString "w") _] _ _] [] _) _) _ _ _); kj_step))
local macro_rules | `(tactic| walk_at "exec If") => `(tactic| (k_here; (with_reducible show wpAny _ _ (exec (Stmt.If _ [Stmt.Assign [Expr.Name (Str.ofString "rows") _] (Expr.BinOp _ _ _ _) _, Stmt.Assign [Expr.Name (Str.ofString "want") _] (Expr.Constant _ _ _) _] [] _) _) _ _ _); (with_reducible rename Fr _ _ _ _ => F0'); (with_reducible rename News _ _ _ _ => N0'); (k_dflt (refine' Mine.if_case1 F0' N0' ?z0 ?z1 ?z2 ?z3 ?z4 ?_ ?_ ?_; (case z0 => with_unfolding_all rfl); (case z1 => with_unfolding_all rfl); (case z2 => with_unfolding_all rfl); (case z3 => with_unfolding_all rfl); (case z4 => with_unfolding_all rfl)))))
local macro_rules | `(tactic| walk_at "exec If") => `(tactic| (k_here; (with_reducible show wpAny _ _ (exec (Stmt.If _ [Stmt.Assign [Expr.Name (Str.ofString "rows") _] (Expr.Name _ _) _, Stmt.Assign [Expr.Name (Str.ofString "want") _] (Expr.Compare _ _ _ _) _] [] _) _) _ _ _); (with_reducible rename Fr _ _ _ _ => F0'); (with_reducible rename News _ _ _ _ => N0'); (k_dflt (refine' Mine.if_case2 F0' N0' ?z0 ?z1 ?z2 ?z3 ?z4 ?_ ?_ ?_; (case z0 => with_unfolding_all rfl); (case z1 => with_unfolding_all rfl); (case z2 => with_unfolding_all rfl); (case z3 => with_unfolding_all rfl); (case z4 => with_unfolding_all rfl)))))
local macro_rules | `(tactic| walk_at "exec If") => `(tactic| (k_here; (with_reducible show wpAny _ _ (exec (Stmt.If _ [Stmt.Assign [Expr.Name (Str.ofString "cols") _] (Expr.BinOp _ _ _ _) _, Stmt.Assign [Expr.Name (Str.ofString "want") _] (Expr.Compare _ _ _ _) _] [] _) _) _ _ _); (with_reducible rename Fr _ _ _ _ => F0'); (with_reducible rename News _ _ _ _ => N0'); (k_dflt (refine' Mine.if_case3 F0' N0' ?z0 ?z1 ?z2 ?z3 ?z4 ?z5 ?_ ?_ ?_; (case z0 => with_unfolding_all rfl); (case z1 => with_unfolding_all rfl); (case z2 => with_unfolding_all rfl); (case z3 => with_unfolding_all rfl); (case z4 => with_unfolding_all rfl); (case z5 => with_unfolding_all rfl)))))
local macro_rules | `(tactic| walk_at "exec If") => `(tactic| (k_here; (with_reducible show wpAny _ _ (exec (Stmt.If _ [Stmt.Assign [Expr.Name (Str.ofString "cols") _] (Expr.Name _ _) _, Stmt.Assign [Expr.Name (Str.ofString "want") _] (Expr.BoolOp _ _ _) _] [] _) _) _ _ _); (with_reducible rename Fr _ _ _ _ => F0'); (with_reducible rename News _ _ _ _ => N0'); (k_dflt (refine' Mine.if_case7 F0' N0' ?z0 ?z1 ?z2 ?z3 ?z4 ?z5 ?_ ?_ ?_; (case z0 => with_unfolding_all rfl); (case z1 => with_unfolding_all rfl); (case z2 => with_unfolding_all rfl); (case z3 => with_unfolding_all rfl); (case z4 => with_unfolding_all rfl); (case z5 => with_unfolding_all rfl)))))
local macro_rules | `(tactic| walk_at "exec If") => `(tactic| (k_here; (with_reducible show wpAny _ _ (exec (Stmt.If _ [Stmt.Assign [Expr.Name (Str.ofString "want") _] (Expr.Compare _ _ _ _) _] [] _) _) _ _ _); (with_reducible rename Fr _ _ _ _ => F0'); (with_reducible rename News _ _ _ _ => N0'); (k_dflt (refine' Mine.if_case45 F0' N0' ?z0 ?z1 ?z2 ?z3 ?_ ?_ ?_; (case z0 => with_unfolding_all rfl); (case z1 => with_unfolding_all rfl); (case z2 => with_unfolding_all rfl); (case z3 => with_unfolding_all rfl)))))
local macro_rules | `(tactic| walk_at "exec If") => `(tactic| (k_here; (with_reducible show wpAny _ _ (exec (Stmt.If _ [Stmt.Assign [Expr.Name (Str.ofString "want") _] (Expr.Constant _ _ _) _] [] _) _) _ _ _); (with_reducible rename Fr _ _ _ _ => F0'); (with_reducible rename News _ _ _ _ => N0'); (k_dflt (refine' Mine.if_case6 F0' N0' ?z0 ?z1 ?_ ?_ ?_; (case z0 => with_unfolding_all rfl); (case z1 => with_unfolding_all rfl)))))
local macro_rules | `(tactic| walk_at "JoinC") => `(tactic| (k_dflt (refine' ⟨?r, ⟨⟨_, _, rfl, ?F, ?N⟩⟩⟩; (case F => assumption); (case N => assumption); (case r => first | (dsimp only; done) | ((try dsimp only); first | exact rfl | exact ⟨rfl, rfl⟩ | exact beq_iff_eq | exact ⟨rfl, beq_iff_eq⟩ | exact ⟨rfl, by rw [beq_iff_eq]; omega⟩ | exact ⟨fun _ => by omega, fun _ => rfl⟩ | exact ⟨fun h => (nomatch h), fun h => by omega⟩)))))
local macro_rules | `(tactic| walk_at "JoinE") => `(tactic| ((k_dflt (refine' ⟨rfl, _, _, _, ?r, ⟨⟨_, _, rfl, ?F, ?N⟩⟩⟩; (case F => assumption); (case N => assumption); (case r => first | (dsimp only; done) | ((try dsimp only); first | exact rfl | exact ⟨rfl, rfl⟩ | exact beq_iff_eq | exact ⟨rfl, beq_iff_eq⟩ | exact ⟨rfl, by rw [beq_iff_eq]; omega⟩ | exact ⟨fun _ => by omega, fun _ => rfl⟩ | exact ⟨fun h => (nomatch h), fun h => by omega⟩))))))
local macro_rules | `(tactic| walk_at "JoinO") => `(tactic| (k_dflt (refine' ⟨rfl, _, ?r, ⟨⟨_, _, rfl, ?F, ?N⟩⟩⟩; (case F => assumption); (case N => assumption); (case r => first | (dsimp only; done) | ((try dsimp only); first | exact rfl | exact ⟨rfl, rfl⟩ | exact beq_iff_eq | exact ⟨rfl, beq_iff_eq⟩ | exact ⟨rfl, by rw [beq_iff_eq]; omega⟩ | exact ⟨fun _ => by omega, fun _ => rfl⟩ | exact ⟨fun h => (nomatch h), fun h => by omega⟩)))))
local macro_rules | `(tactic| walk_at "JoinT") => `(tactic| ((show _ → ∀ _, _ → _); intro hc' s' hJ'; obtain ⟨h', tk', e', F'', N''⟩ := KJoinAt.at_ hJ'; subst e'))
local macro_rules | `(tactic| walk_at "JoinK") => `(tactic| ((show ∀ _ _ _ _, _ → _ → _); intro r' z' t' s' hr' hJ'; (try dsimp only at hr'); obtain ⟨h', tk', e', F'', N''⟩ := KJoinAt.at_ hJ'; subst e'))
local macro_rules | `(tactic| walk_at "JoinK1") => `(tactic| ((show ∀ _ _, _ → _ → _); intro z' s' hr' hJ'; (try dsimp only at hr'); obtain ⟨h', tk', e', F'', N''⟩ := KJoinAt.at_ hJ'; subst e'))
local macro_rules | `(tactic| walk_at "exec For Name Call cons nil") => `(tactic| (k_here; (k_dflt (refine Mine.For_cell' (by k_asm) (by rfl) (by rfl) (by rfl) ?_))))
local macro_rules | `(tactic| walk_at "ForCellSrc") => `(tactic| (k_here; (with_reducible rename _ ∧ _ => hlt'); (k_dflt (refine' Mine.loop_table1 ?i0 ?i2 ?i3 ?i4 ?i5 ?b0 ?b1 (by rfl) (by k_asm) (by k_asm) ?kd ?kl ?e1 ?e2 ?e3 (by assumption) ?kb ?_ ?_; (case i0 => assumption); (case i2 => with_unfolding_all rfl); (case i3 => with_unfolding_all rfl); (case i4 => with_unfolding_all rfl); (case i5 => with_unfolding_all rfl); (case b0 => exact Mine.bnd_w (by assumption)); (case b1 => exact Mine.bnd_s _); (case kb => exact rfl); (case kd => assumption); (case kl => first | exact hlt' | exact ⟨hlt'.1, hlt'.2, trivial⟩); (case e1 => exact rfl); (case e2 => exact rfl); (case e3 => first | exact trivial | assumption))); (intro i' u' t' vs' k' add' I' oI' oc' h' tk' hi' hD' hc' F' N' hne' ho' bW' bS'; (try simp only [List.cons_append, List.nil_append] at N')); rotate_left; (intro u' vs' k' add' oc' vc' h' tk' hD' hd' F' N'; (try simp only [List.cons_append, List.nil_append] at N')); rotate_right))
local macro_rules | `(tactic| walk_at "CompSrc") => `(tactic| (k_here; (with_reducible show LCg.CompSrc _ _ _ _ _ _ _ _ (Str.ofString "j") _ _ _ _ _); (k_dflt (refine' Mine.src_row ?i0 ?kd (by rfl) (by k_asm) (by k_asm) (by assumption) ?kb ?_ ?_; (case i0 => assumption); (case kd => assumption); (case kb => omega))); (intro i' ys' ds' add' t' I' oI' C' oC' D' m' h' tk' E' hi' hp' hC' hx' F' N'; (try simp only [List.cons_append, List.nil_append] at N')); rotate_left; (intro g' ys' add' hD' hO'); rotate_right))
local macro_rules | `(tactic| walk_at "Made") => `(tactic| ((try k_unfold); (try dsimp only); (with_reducible rename _ ∧ _ => hlt'); (k_dflt (refine' Mine.made_pair (tl := []) ?mF ?mN ?mH ?mS ?mP); (case mF => k_asm); (case mN => k_asm); (case mH => k_dflt (exact hlt')); (case mS => kcf_all); (case mP => exact Mine.row_snoc (by assumption) rfl))))
local macro_rules | `(tactic| walk_at "FinE") => `(tactic| ((unfold LCg.FinE); intro D' h' tk' F' N' o1'; (have o2' := Mine.off1_all o1'); (try simp only [List.cons_append, List.nil_append] at N' o1' o2'); (try simp only [LCg.Off1, and_true] at o1'); (try dsimp only)))
local macro_rules | `(tactic| walk_at "FinA") => `(tactic| ((unfold LCg.FinA); intro D' h' tk' F' N' o1'; (have o2' := Mine.off1_all o1'); (try simp only [List.cons_append, List.nil_append] at N' o1' o2'); (try simp only [LCg.Off1, and_true] at o1'); (try dsimp only)))
local macro_rules | `(tactic| walk_at "call type:tuple") => `(tactic| (k_here; (with_reducible show wpAny _ _ (call (Value.type _) [Value.ref _]) _ _ _); (k_dflt (refine' Mine.tuple_dat ?F ?N ?m ?d ?n ?_; (case F => k_asm); (case N => k_asm); (case m => k_mem); (case d => assumption); (case n => first | omega | exact Nat.le_trans (Nat.le_of_lt (Mine.k5_8 _)) (by decide)))); intro D' h' F' N' l1'; (try k_lt l1'); (try dsimp only)))
local macro_rules | `(tactic| walk_at "callWith builtin:list.append cons nil") => `(tactic| (k_here; refine callWith_method1 ?_))
local macro_rules | `(tactic| walk_at "call builtin:list.append") => `(tactic| (k_here; (with_reducible show wpAny _ _ (call (Value.builtin _) [Value.ref _, Value.ref _]) _ _ _); (k_dflt (refine' Mine.append_rowT ?an ?ao ?aD ?ai ?aF ?aN ?aI ?ac ?aw ?ab ?ar ?aO ?b1 ?b2 ?b3 ?al ?a2 ?az ?a5 ?ae ?_; (case an => assumption); (case ao => assumption); (case aD => assumption); (case ai => assumption); (case aF => k_asm); (case aN => k_asm); (case aI => k_mem); (case ac => k_mem); (case aw => k_mem); (case ab => kcf_all); (case al => k_mem); (case ar => assumption); (case aO => assumption); (case b1 => kcf_m); (case b2 => kcf_m); (case b3 => kcf_m); (case a2 => kcf_all); (case az => first | exact Mine.size_no (by omega) | exact Mine.size_yes (by omega)); (case a5 => omega); (case ae => first | exact ⟨Mine.off_sym (by assumption) (by kcf_m), Mine.off_sym (by assumption) (by kcf_m), Mine.off_sym (by assumption) (by kcf_m)⟩ | exact ⟨by omega, by omega, by omega⟩))); intro h' all' F' N' o' hJ'; (try dsimp only)))
local macro_rules | `(tactic| walk_at "call builtin:list.append") => `(tactic| (k_here; (with_reducible show wpAny _ _ (call (Value.builtin _) [Value.ref _, Value.ref _]) _ _ _); (k_dflt (refine' Mine.append_rowL ?an ?ao ?aD ?ai ?aF ?aN ?aI ?ac ?aw ?ab ?ar ?aO ?b1 ?b2 ?b3 ?al ?a2 ?az ?a5 ?ae ?_; (case an => assumption); (case ao => assumption); (case aD => assumption); (case ai => assumption); (case aF => k_asm); (case aN => k_asm); (case aI => k_mem); (case ac => k_mem); (case aw => k_mem); (case ab => kcf_all); (case al => k_mem); (case ar => assumption); (case aO => assumption); (case b1 => kcf_m); (case b2 => kcf_m); (case b3 => kcf_m); (case a2 => kcf_all); (case az => first | exact Mine.size_no (by omega) | exact Mine.size_yes (by omega)); (case a5 => omega); (case ae => first | exact ⟨Mine.off_sym (by assumption) (by kcf_m), Mine.off_sym (by assumption) (by kcf_m), Mine.off_sym (by assumption) (by kcf_m)⟩ | exact ⟨by omega, by omega, by omega⟩))); intro h' all' F' N' o' hJ'; (try dsimp only)))
local macro_rules | `(tactic| walk_at "TurnC") => `(tactic| ((k_dflt (refine' Mine.turn_row ?j ?F ?N ?o ?m; (case j => assumption); (case F => k_asm); (case N => k_asm); (case o => assumption); (case m => (intro y9 h9; (try dsimp only); (repeat first | (with_reducible exact rfl) | (refine Mine.skip_name ?q h9 ?_; (case q => with_unfolding_all rfl)) | (refine Mine.skip_many ?q h9 ?_; (case q => with_unfolding_all rfl)))))))))
local macro_rules | `(tactic| walk_at "call builtin:isinstance") => `(tactic| (k_here; (with_reducible show wpAny _ _ (call _ [Value.ref _, Value.type _]) _ _ _); (k_dflt (refine' kia_one kitx_tuple ?X ?c ?ee ?nb ?_; (case c => (refine' kitAt_N ?N ?m ?c; (case N => k_asm); (case m => first | k_mem | kcf_m); (case c => with_reducible rfl))); (case X => exact Frag.In.keeps (by k_asm) (Fr.keep (by k_asm))); (case ee => kit_is); (case nb => kit_nb); k_whole)); intro _))
local macro_rules | `(tactic| walk_at "call builtin:isinstance") => `(tactic| (k_here; (with_reducible show wpAny _ _ (call _ [Value.ref _, Value.type _]) _ _ _); (k_dflt (refine' kia_one kitx_list ?X ?c ?ee ?nb ?_; (case c => (refine' kitAt_N ?N ?m ?c; (case N => k_asm); (case m => first | k_mem | kcf_m); (case c => with_reducible rfl))); (case X => exact Frag.In.keeps (by k_asm) (Fr.keep (by k_asm))); (case ee => kit_is); (case nb => kit_nb); k_whole)); intro _))
local macro_rules | `(tactic| walk_at "ite") => `(tactic| ((with_reducible show @ite Prop ((bne false _) = true) _ _ _); (k_dflt (refine' Mine.ite_ne ?e ?_; (case e => (first | exact Mine.Facts.at6 (Mine.Facts.at (by assumption) (by assumption) (by assumption) (by assumption) (by assumption) (by assumption) (by assumption)) (by assumption) | exact Mine.Facts.atRows (Mine.Facts.at (by assumption) (by assumption) (by assumption) (by assumption) (by assumption) (by assumption) (by assumption)) (by assumption) | exact Mine.Facts.atRow (Mine.Facts.at (by assumption) (by assumption) (by assumption) (by assumption) (by assumption) (by assumption) (by assumption)) (by assumption) (Mine.not_okL (by assumption) (by assumption)) | exact Mine.Facts.atRow (Mine.Facts.at (by assumption) (by assumption) (by assumption) (by assumption) (by assumption) (by assumption) (by assumption)) (by assumption) (Mine.not_okT (by assumption))))))))
local macro_rules | `(tactic| walk_at "ite") => `(tactic| ((with_reducible show @ite Prop ((bne true _) = true) _ _ _); (k_dflt (refine' Mine.ite_ne ?e ?_; (case e => (exact Mine.Facts.atAll (Mine.Facts.at (by assumption) (by assumption) (by assumption) (by assumption) (by assumption) (by assumption) (by assumption)) (by assumption) (by assumption) (by assumption)))))))
local macro_rules | `(tactic| walk_at "call builtin:len") => `(tactic| (k_here; (with_reducible show wpAny _ _ (call (Value.builtin "len") [Value.ref _]) _ _ _); (k_dflt (refine' Mine.len_row ?N ?m ?e ?b ?_; (case N => k_asm); (case m => first | k_mem | kcf_m); (case e => assumption); (case b => assumption))); (try dsimp only)))
local macro_rules | `(tactic| walk_at "call builtin:len") => `(tactic| (k_here; (with_reducible show wpAny _ _ (call (Value.builtin "len") [Value.ref _]) _ _ _); (k_dflt (refine' Mine.len_m ?N ?m ?e ?_; (case N => k_asm); (case m => k_mem); (case e => assumption))); (try dsimp only)))
local macro_rules | `(tactic| walk_at "exec For Name Name cons nil") => `(tactic| (k_here; (k_dflt (refine Mine.For_list (by k_asm) (.inl ⟨_, _, rfl⟩) ?_))))
local macro_rules | `(tactic| walk_at "ForListSrc") => `(tactic| (k_here; (k_dflt (refine' Mine.loop_rows1 ?kg ?kG ?kc ?b0 ?b1 ?ks (by rfl) (by k_asm) (by k_asm) ?_ ?_ ?_; (case kg => k_mem); (case kG => assumption); (case kc => with_unfolding_all rfl); (case b0 => exact Mine.bnd_w (by assumption)); (case b1 => exact Mine.bnd_s _); (case ks => kcf_all))); (intro i' a' es' k' r' u' I' oI' h' tk' hi' hr' he' hz' hm' hK' F' N' o'); rotate_left; (intro i' a' es' k' r' u' I' oI' h' tk' hi' hr' hm' F' N' o'); rotate_left; (intro u' h' tk' hK' F' N'); rotate_left))
local macro_rules | `(tactic| walk_at "TurnG") => `(tactic| ((k_dflt (refine' Mine.turn_ok ?k ?F ?N ?s ?o ?m; (case k => exact Mine.ok_succ (by assumption) (by assumption) (by assumption)); (case F => k_asm); (case N => k_asm); (case o => assumption); (case s => kcf_all); (case m => (intro y9 h9; (try dsimp only); (repeat first | (with_reducible exact rfl) | (refine Mine.skip_name ?q h9 ?_; (case q => with_unfolding_all rfl)) | (refine Mine.skip_many ?q h9 ?_; (case q => with_unfolding_all rfl)))))))))
local macro_rules | `(tactic| walk_at "TurnG") => `(tactic| ((with_reducible show Mine.TurnG _ _ _ _ _ _ _ _ _ (Flow.ret _) _); (unfold Mine.TurnG); (try dsimp only)))
local macro_rules | `(tactic| walk_at "compareOp NotEq ref ref") => `(tactic| (k_here; (k_dflt (refine' Mine.ne_same ?kN ?ka ?kA ?ksa ?kb ?kB ?ksb ?ko ?ku ?_; (case kN => k_asm); (case ka => k_mem); (case kA => assumption); (case kb => k_mem); (case kB => assumption); (case ksa => kcf_all); (case ksb => kcf_all); (case ko => exact Mine.rowT_ok _ _ _ _ _ _); (case ku => ke_room)))))
local macro_rules | `(tactic| walk_at "compareOp NotEq ref ref") => `(tactic| (k_here; (k_dflt (refine' Mine.ne_sameT ?kN ?ka ?kA ?ksa ?kb ?kB ?ksb ?ko ?ku ?_; (case kN => k_asm); (case ka => k_mem); (case kA => assumption); (case kb => k_mem); (case kB => assumption); (case ksa => kcf_all); (case ksb => kcf_all); (case ko => exact Mine.rowT_ok _ _ _ _ _ _); (case ku => ke_room)))))
local macro_rules | `(tactic| walk_at "execs cons Return nil") => `(tactic| (exfalso; exact Mine.no_case6 (by assumption) (by assumption)))
set_option maxRecDepth 100000 in
set_option maxHeartbeats 8000000 in
theorem PySem.Challenge.cw_k20_0014_holds : PySem.Challenge.rw_k20_0014.Holds := by
  open_k
