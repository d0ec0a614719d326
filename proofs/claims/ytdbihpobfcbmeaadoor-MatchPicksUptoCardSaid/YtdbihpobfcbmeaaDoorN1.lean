/- The walks of the document's functions on trees: how deep, all of them, few. -/
import Derived.Test.YtdbihpobfcbmeaaDoorBH
import Derived.Test.YtdbihpobfcbmeaaDoorBI
set_option linter.unusedVariables false
set_option linter.unusedSimpArgs false
namespace Go.Proofs.YtdbihpobfcbmeaaDoor
namespace B
open Go Go.RowKit

/-- A node's cells, its slices opened. -/
theorem RdN.open {I : Im} {cs : List Value} {x : Nd} (h : RdN I cs x) : ∃ ak ck al cl, cs = [.int .i64 x.kind, .int .i64 x.n, .string (bs x.s), .slice ak x.k.length ck, .slice al x.l.length cl] ∧
    RdL I 1 RdS (.slice ak x.k.length ck) x.k ∧ RdL I 5 (RdN I) (.slice al x.l.length cl) x.l := by
  obtain ⟨vk, vl, rfl, hk, hl⟩ := h.out
  obtain ⟨ak, ck, rfl, _⟩ := hk.len
  obtain ⟨al, cl, rfl, _⟩ := hl.len
  exact ⟨ak, ck, al, cl, rfl, hk, hl⟩
theorem RdN.one {I : Im} {cs : List Value} {x : Nd} (h : RdN I cs x) : ∀ u ∈ cs, u.oneCell' = true := by
  obtain ⟨ak, ck, al, cl, rfl, _, _⟩ := h.open
  intro u hu
  simp only [List.mem_cons, List.mem_nil_iff, or_false] at hu
  rcases hu with rfl | rfl | rfl | rfl | rfl <;> rfl
theorem RdC.one {α : Type} {sz : Nat} {R : List Value → α → Prop} {cs : List Value} {xs : List α} (h : RdC sz R cs xs) (hR : ∀ r x, R r x → ∀ u ∈ r, u.oneCell' = true) (hs : 0 < sz) : ∀ u ∈ cs, u.oneCell' = true := by
  intro u hu
  obtain ⟨i, hi⟩ := List.getElem?_of_mem hu
  have hlt := (List.getElem?_eq_some_iff.1 hi).1
  rw [h.1] at hlt
  have h1 : i / sz < xs.length := Nat.div_lt_of_lt_mul (by rw [Nat.mul_comm]; exact hlt)
  refine hR _ _ (h.2 (i / sz) _ (List.getElem?_eq_getElem h1)) u ?_
  refine List.mem_of_getElem? (i := i % sz) ?_
  rw [List.getElem?_take, if_pos (Nat.mod_lt _ hs), List.getElem?_drop, Nat.mul_comm, Nat.div_add_mod, hi]
mutual
def dep : Nd → Nat
  | .mk _ _ _ _ l => deps l + 1
def deps : List Nd → Nat
  | [] => 0
  | x :: r => max (dep x) (deps r)
end
theorem dep_eq (x : Nd) : dep x = deps x.l + 1 := by cases x; simp [dep, Nd.l]
theorem deps_take (l : List Nd) (i : Nat) (x : Nd) (h : l[i]? = some x) : deps (l.take (i + 1)) = max (deps (l.take i)) (dep x) := by
  induction l generalizing i with
  | nil => simp at h
  | cons y r ih =>
    cases i with
    | zero => simp at h; subst h; simp [deps]
    | succ i => simp at h; simp [deps, ih i h]
mutual
def alln : Nd → List Nd
  | .mk a b s k l => .mk a b s k l :: allns l
def allns : List Nd → List Nd
  | [] => []
  | x :: r => alln x ++ allns r
end
theorem alln_eq (x : Nd) : alln x = x :: allns x.l := by cases x; simp [alln, Nd.l]
theorem allns_take (l : List Nd) (i : Nat) (x : Nd) (h : l[i]? = some x) : allns (l.take (i + 1)) = allns (l.take i) ++ alln x := by
  induction l generalizing i with
  | nil => simp at h
  | cons y r ih =>
    cases i with
    | zero => simp at h; subst h; simp [allns]
    | succ i => simp at h; simp [allns, ih i h]
mutual
theorem dep_le : ∀ x : Nd, dep x ≤ nb x
  | .mk a b s k l => by have := deps_le l; simp only [dep, nb]; omega
theorem deps_le : ∀ l : List Nd, deps l ≤ nbs l
  | [] => by simp [deps, nbs]
  | x :: r => by have := dep_le x; have := deps_le r; simp only [deps, nbs]; omega
end
mutual
theorem alln_le : ∀ x : Nd, (alln x).length ≤ nb x
  | .mk a b s k l => by have := allns_le l; simp only [alln, nb, List.length_cons]; omega
theorem allns_le : ∀ l : List Nd, (allns l).length ≤ nbs l
  | [] => by simp [allns, nbs]
  | x :: r => by have := alln_le x; have := allns_le r; simp only [allns, nbs, List.length_append]; omega
end
theorem len_nbs (l : List Nd) : l.length ≤ nbs l := by rw [nbs_sum]; exact sum_len nb_pos l
theorem nbs_take (l : List Nd) (i : Nat) : nbs (l.take i) ≤ nbs l := by
  induction l generalizing i with
  | nil => simp [nbs]
  | cons y r ih =>
    cases i with
    | zero => simp [nbs]
    | succ i => simp [nbs]; have := ih i; omega
section
variable {c : Cx} {I : Im} {L : List Ent} {w : World}
set_option maxHeartbeats 2000000 in
theorem depth_ok : ∀ (m : Nat) (x : Nd), nb x ≤ m → m ≤ 100000000 → ∀ (c : Cx) (I : Im) (L : List Ent) (w : World) (cs : List Value) (K : Value → World → Prop), RdN I cs x → St c I L w →
    (∀ w', St c I L w' → K (.int .i64 (dep x)) w') → callW Tryd.prog 65 [.agg ⟨cs⟩] K w := by
  intro m
  induction m with
  | zero => intro x hx; have := nb_pos x; omega
  | succ m ih =>
    intro x hx hm c I L w cs K hr hs k
    obtain ⟨ak, ck, al, cl, rfl, hk, hl⟩ := hr.open
    have hll : x.l.length ≤ 100000000 := by have := len_nbs x.l; have := nb_eq x; omega
    refine fn_of good Tryd.func65 rfl rfl rfl ?_
    refine new hs ?_
    intro b w1 hs1
    have hs1 : St c I (.blk b (.cells ⟨[.int .i64 x.kind, .int .i64 x.n, .string (bs x.s), .slice ak x.k.length ck, .slice al x.l.length cl]⟩ 30) :: L) w1 := hs1
    refine loop [1, 3, 4] (fun (i : Nat) vs w' => vs = [.pointer (some ⟨b, 0, none⟩), .int .i64 (deps (x.l.take i)), .int .i64 i] ∧
      St c I (.blk b (.cells ⟨[.int .i64 x.kind, .int .i64 x.n, .string (bs x.s), .slice ak x.k.length ck, .slice al x.l.length cl]⟩ 30) :: L) w' ∧ i ≤ x.l.length) (fun i => x.l.length - i) 0 ⟨rfl, hs1, Nat.zero_le _⟩ ?_
    rintro Z i vs e w' hI hZ
    obtain ⟨rfl, hs2, hi⟩ := hI
    refine ld 0 hs2 rfl rfl rfl ?_
    refine cd (fun h => ?_) (fun h => ?_)
    · have h : (i : Int) < x.l.length := h
      refine ld 0 hs2 rfl rfl rfl ?_
      refine idr hl hs2.im (by omega) h ?_
      rintro ad y r hy hyr hrl hcell
      rw [Int.toNat_natCast] at hy
      refine ldc hcell hrl ?_
      have hym : nb y < nb x := nb_mem (List.mem_of_getElem? hy)
      refine ih y (by omega) (by omega) c I _ w' r _ hyr hs2 ?_
      intro w3 hs3
      have hdt := deps_take x.l i y hy
      have hdy := dep_le y
      have hds := deps_le (x.l.take i)
      have hds2 := nbs_take x.l i
      have hnx := nb_eq x
      refine cd (fun h2 => ?_) (fun h2 => ?_)
      · have h2 : (deps (x.l.take i) : Int) < (dep y : Int) := h2
        refine hZ (i + 1) _ _ ⟨?_, hs3, by omega⟩ (by omega)
        exact ce rfl (ce (vI (by show (dep y : Int) = ((deps (x.l.take (i + 1)) : Nat) : Int); rw [hdt]; omega)) (ce (vI (wAdd (a := i) (b := 1) (by omega))) rfl))
      · have h2 : ¬ (deps (x.l.take i) : Int) < (dep y : Int) := h2
        refine hZ (i + 1) _ _ ⟨?_, hs3, by omega⟩ (by omega)
        exact ce rfl (ce (vI (by show (deps (x.l.take i) : Int) = ((deps (x.l.take (i + 1)) : Nat) : Int); rw [hdt]; omega)) (ce (vI (wAdd (a := i) (b := 1) (by omega))) rfl))
    · have h : ¬ (i : Int) < x.l.length := h
      have hie : i = x.l.length := by omega
      refine finI (k w' (hs2.drop 0)) ?_
      show IntKind.i64.wrap ((deps (x.l.take i) : Int) + 1) = _
      have hds := deps_le x.l
      have hnx := nb_eq x
      rw [hie, List.take_length, dep_eq]
      exact wAdd (a := deps x.l) (b := 1) (by omega)
set_option maxHeartbeats 2000000 in
theorem all_ok : ∀ (m : Nat) (x : Nd), nb x ≤ m → m ≤ 100000000 → ∀ (c : Cx), (∀ b, ¬ c.X b) → ∀ (I : Im) (L : List Ent) (w : World) (cs : List Value) (K : Value → World → Prop), RdN I cs x → St c I L w →
    (∀ v J w', Le I J → St c J L w' → RdL J 5 (RdN J) v (alln x) → K v w') → callW Tryd.prog 56 [.agg ⟨cs⟩] K w := by
  intro m
  induction m with
  | zero => intro x hx; have := nb_pos x; omega
  | succ m ih =>
    intro x hx hm c hX I L w cs K hr hs k
    obtain ⟨ak, ck, al, cl, rfl, hk, hl⟩ := hr.open
    have hll : x.l.length ≤ 100000000 := by have := len_nbs x.l; have := nb_eq x; omega
    refine fn_of good Tryd.func56 rfl rfl rfl ?_
    refine new hs ?_
    intro b w1 hs1
    have hs1 : St c I (.blk b (.cells ⟨[.int .i64 x.kind, .int .i64 x.n, .string (bs x.s), .slice ak x.k.length ck, .slice al x.l.length cl]⟩ 30) :: L) w1 := hs1
    refine ld 0 hs1 rfl rfl rfl ?_
    refine new hs1 ?_
    intro b3 w2 hs2
    have hs2 : St c I (.blk b3 (.cells ⟨[.int .i64 x.kind, .int .i64 x.n, .string (bs x.s), .slice ak x.k.length ck, .slice al x.l.length cl]⟩ 30) :: .blk b (.cells ⟨[.int .i64 x.kind, .int .i64 x.n, .string (bs x.s), .slice ak x.k.length ck, .slice al x.l.length cl]⟩ 30) :: L) w2 := hs2
    have hs3 := hs2.toRow 0 rfl (sz := 5) (n := 1) rfl (by omega)
    have hc0 : RdC 5 (RdN I) [.int .i64 x.kind, .int .i64 x.n, .string (bs x.s), .slice ak x.k.length ck, .slice al x.l.length cl] (x :: allns (x.l.take 0)) := by
      refine ⟨rfl, fun j y hj => ?_⟩
      have : j = 0 := by have := (List.getElem?_eq_some_iff.1 hj).1; simp [allns] at this; omega
      subst this
      simp at hj; subst hj
      exact hr
    refine loop [1, 3, 4] (fun (i : Nat) vs w' => ∃ v J cs n, vs = [.pointer (some ⟨b, 0, none⟩), v, .int .i64 i] ∧ Le I J ∧ n = (x :: allns (x.l.take i)).length ∧
      St c J (.row v 30 5 n cs :: .blk b (.cells ⟨[.int .i64 x.kind, .int .i64 x.n, .string (bs x.s), .slice ak x.k.length ck, .slice al x.l.length cl]⟩ 30) :: L) w' ∧ RdC 5 (RdN J) cs (x :: allns (x.l.take i)) ∧ i ≤ x.l.length)
      (fun i => x.l.length - i) 0 ⟨_, I, _, _, rfl, Le.refl I, rfl, hs3, hc0, Nat.zero_le _⟩ ?_
    clear hs1 hs2 hs3 hc0
    rintro Z i vs e w' hI hZ
    obtain ⟨v, J, cs, n, rfl, hJ, rfl, hs2, hc, hi⟩ := hI
    refine ld 1 hs2 rfl rfl rfl ?_
    refine cd (fun h => ?_) (fun h => ?_)
    · have h : (i : Int) < x.l.length := h
      refine ld 1 hs2 rfl rfl rfl ?_
      refine idr (hl.mono hJ fun _ _ _ h => h.up hJ) hs2.im (by omega) h ?_
      rintro ad y r hy hyr hrl hcell
      rw [Int.toNat_natCast] at hy
      refine ldc hcell hrl ?_
      have hym : nb y < nb x := nb_mem (List.mem_of_getElem? hy)
      refine ih y (by omega) (by omega) c hX J _ w' r _ hyr hs2 ?_
      intro v2 J2 w3 hJ2 hs3 hr2
      obtain ⟨news, hrow, hcn⟩ := hr2
      have hat := allns_take x.l i y hy
      have hla := allns_le (x.l.take i)
      have hlb := nbs_take x.l i
      have hly := alln_le y
      have hnx := nb_eq x
      refine appR good 0 hs3 rfl hrow (by rw [alln_eq]; simp) rfl rfl rfl rfl rfl (hcn.one (fun _ _ h => h.one) (by omega)) (by simp only [List.length_cons]; omega) ?_
      intro v4 w4 hs4
      refine hZ (i + 1) _ _ ⟨v4, J2, _, _, ?_, hJ.trans hJ2, ?_, hs4, ?_, by omega⟩ (by omega)
      · exact ce rfl (ce rfl (ce (vI (wAdd (a := i) (b := 1) (by omega))) rfl))
      · rw [hat]; simp only [List.length_cons, List.length_append]; omega
      · rw [hat]
        exact (hc.mono fun _ _ _ h => h.up hJ2).append hcn
    · have h : ¬ (i : Int) < x.l.length := h
      have hie : i = x.l.length := by omega
      rw [hie, List.take_length, ← alln_eq] at hc
      obtain ⟨J2, hJ2, hs3, hr3⟩ := hs2.fixRow (i := 0) (xs := alln x) rfl hX hc (by rw [hie, List.take_length, alln_eq])
      refine k v J2 w' (hJ.trans hJ2) (hs3.drop 0) ?_
      exact hr3.mono (Le.refl _) fun _ _ _ h => h.up hJ2
def fewS : List Nd → Nat
  | [] => 0
  | x :: r => x.s.length + ksum x.k + fewS r
def fewN (x : Nd) (most : Int) : Bool := if 80 < dep x then false else decide (((alln x).length : Int) ≤ most) && decide ((fewS (alln x) : Int) ≤ 3000)
end
end B
end Go.Proofs.YtdbihpobfcbmeaaDoor
