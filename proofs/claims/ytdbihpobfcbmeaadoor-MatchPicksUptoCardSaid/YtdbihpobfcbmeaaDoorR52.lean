/- The walk of the document's pattern. -/
import Derived.Test.YtdbihpobfcbmeaaDoorP52
set_option linter.unusedVariables false
set_option linter.unusedSimpArgs false
namespace Go.Proofs.YtdbihpobfcbmeaaDoor
namespace B
open Go Go.RowKit

def Row (f : Nat → Bool) (k n : Nat) (cs : List Value) : Prop := cs.length = n + 1 ∧ (∀ j, j < k → cs[j]? = some (.bool (f j))) ∧ ∀ j, k ≤ j → j ≤ n → cs[j]? = some (.bool false)
theorem Row.set {f : Nat → Bool} {k n : Nat} {cs : List Value} {b : Bool} (h : Row f k n cs) (hk : k ≤ n) (hb : b = f k) : Row f (k + 1) n (cs.set (0 + k) (.bool b)) := by
  obtain ⟨h1, h2, h3⟩ := h
  refine ⟨by simpa using h1, fun j hj => ?_, fun j h4 h5 => ?_⟩
  · by_cases e : j = k
    · subst e; rw [Nat.zero_add, List.getElem?_set_self (by omega), hb]
    · rw [Nat.zero_add, List.getElem?_set_ne (by omega)]; exact h2 j (by omega)
  · rw [Nat.zero_add, List.getElem?_set_ne (by omega)]; exact h3 j (by omega) h5
theorem Row.skip {f : Nat → Bool} {k n : Nat} {cs : List Value} (h : Row f k n cs) (hk : k ≤ n) (hb : f k = false) : Row f (k + 1) n cs := by
  obtain ⟨h1, h2, h3⟩ := h
  refine ⟨h1, fun j hj => ?_, fun j h4 h5 => h3 j (by omega) h5⟩
  by_cases e : j = k
  · subst e; rw [hb]; exact h3 j (Nat.le_refl _) hk
  · exact h2 j (by omega)
theorem Row.new (f : Nat → Bool) (n : Nat) : Row f 0 n (List.replicate (n + 1) (.bool false)) := by
  refine ⟨by simp, fun j hj => by omega, fun j _ hj => ?_⟩
  rw [List.getElem?_replicate, if_pos (by omega)]
theorem w64p (n : Nat) (h : n ≤ 100000000) : IntKind.i64.wrap ((n : Int) + 1) = ((n + 1 : Nat) : Int) := wAdd (a := n) (b := 1) (by omega)
theorem u8eq {a b : UInt8} : ((a.toNat : Int) = (b.toNat : Int)) ↔ a = b := by
  rw [Int.natCast_inj]; exact UInt8.toNat_inj
section
variable {c : Cx} {I : Im} {L : List Ent} {w : World}
set_option maxHeartbeats 2000000 in
set_option maxRecDepth 10000 in
theorem refGlob_ok (p s : List UInt8) {K : Value → World → Prop} (hs : St c I L w) (hp : p.length ≤ 100000000) (hl : s.length ≤ 100000000)
    (k : ∀ w', St c I L w' → K (.bool (mb p s)) w') : callW Tryd.prog 14 [.string (bs p), .string (bs s)] K w := by
  refine fn_of good Tryd.func14 rfl rfl rfl ?_
  refine mks good hs (n := s.length + 1) (z := .bool false) rfl rfl rfl rfl (w64p s.length hl) (w64p s.length hl) (by omega) ?_
  intro b w1 hs1
  refine idx rfl (by decide) (by show (0 : Int) < ((s.length + 1 : Nat) : Int); omega) ?_
  refine stoi 0 hs1 (i := 0) (v := .bool true) rfl rfl rfl (by simp) ?_
  intro w2 hs2
  have hr0 : Row (fun j => mb (p.take 0) (s.take j)) (s.length + 1) s.length ((List.replicate (s.length + 1) (.bool false)).set (0 + 0) (.bool true)) := by
    refine ⟨by simp, fun j hj => ?_, fun j hj => by omega⟩
    have := mb_0 j s (by omega)
    simp only [List.take_zero, this]
    by_cases e : j = 0
    · subst e; rw [Nat.zero_add, List.getElem?_set_self (by simp)]; rfl
    · rw [List.getElem?_set_ne (by omega), List.getElem?_replicate, if_pos (by omega), decide_eq_false e]
  refine loop [0, 1, 5, 6] (fun (i : Nat) vs w' => ∃ b cs tb, vs = [.string (bs p), .string (bs s), .slice (some ⟨b, 0, none⟩) (s.length + 1) (s.length + 1), .int .i64 i] ∧
    St c I (.blk b (.cells ⟨cs⟩ tb) :: L) w' ∧ i ≤ p.length ∧ Row (fun j => mb (p.take i) (s.take j)) (s.length + 1) s.length cs) (fun i => p.length - i) 0 ⟨b, _, _, rfl, hs2, Nat.zero_le _, hr0⟩ ?_
  rintro Z i vs e w' hI hZ
  clear hr0 hs2 hs1 hs
  obtain ⟨b, cs, tb, rfl, hs3, hi, hr⟩ := hI
  refine cd (fun h => ?_) (fun h => ?_)
  · have h : (i : Int) < p.length := h
    refine mks good hs3 (n := s.length + 1) (z := .bool false) rfl rfl rfl rfl (w64p s.length hl) (w64p s.length hl) (by omega) ?_
    intro b7 w4 hs4
    have hp1 := take_snoc p i (by omega)
    refine loop [0, 1, 5, 6, 7, 8] (fun (k : Nat) vs w' => ∃ cs7 tb7, vs = [.string (bs p), .string (bs s), .slice (some ⟨b, 0, none⟩) (s.length + 1) (s.length + 1), .int .i64 i, .slice (some ⟨b7, 0, none⟩) (s.length + 1) (s.length + 1), .int .i64 k] ∧
      St c I (.blk b7 (.cells ⟨cs7⟩ tb7) :: .blk b (.cells ⟨cs⟩ tb) :: L) w' ∧ k ≤ s.length + 1 ∧ Row (fun j => mb (p.take (i + 1)) (s.take j)) k s.length cs7) (fun k => s.length + 1 - k) 0 ⟨_, _, rfl, hs4, Nat.zero_le _, Row.new _ _⟩ ?_
    rintro Z2 k7 vs e w5 hI hZ2
    clear hs4 hs3
    obtain ⟨cs7, tb7, rfl, hs5, hk7, hr7⟩ := hI
    refine cd (fun h7 => ?_) (fun h7 => ?_)
    · have h7 : (k7 : Int) ≤ s.length := h7
      have hck : cs[0 + k7]? = some (.bool (mb (p.take i) (s.take k7))) := by rw [Nat.zero_add]; exact hr.2.1 k7 (by omega)
      have next : ∀ w6 e' cs8, e' = [.string (bs p), .string (bs s), .slice (some ⟨b, 0, none⟩) (s.length + 1) (s.length + 1), .int .i64 i, .slice (some ⟨b7, 0, none⟩) (s.length + 1) (s.length + 1), .int .i64 (IntKind.i64.wrap ((k7 : Int) + 1))] →
          St c I (.blk b7 (.cells ⟨cs8⟩ tb7) :: .blk b (.cells ⟨cs⟩ tb) :: L) w6 → Row (fun j => mb (p.take (i + 1)) (s.take j)) (k7 + 1) s.length cs8 → ∀ env : Env, List.map env [0, 1, 5, 6, 7, 8] = e' → Z2 env w6 := by
        intro w6 e' cs8 he hs6 hr6 env henv
        refine hZ2 (k7 + 1) env w6 ⟨cs8, tb7, ?_, hs6, by omega, hr6⟩ (by omega)
        rw [henv, he, w64p k7 (by omega)]
      refine req ⟨by omega, h⟩ ?_
      refine cd (fun h42 => ?_) (fun h42 => ?_)
      · have hc42 : p.getD i 0 = 42 := UInt8.toNat_inj.1 (by have h42 : (((p.getD i 0).toNat : Nat) : Int) = 42 := h42; show (p.getD i 0).toNat = 42; omega)
        rw [hc42] at hp1
        refine idx rfl (by omega) (by show (k7 : Int) < ((s.length + 1 : Nat) : Int); omega) ?_
        refine ldi 1 hs5 (i := k7) rfl (Nat.mul_one _) hck ?_
        refine B.cs (fun he => ?_) (fun he => ?_)
        · refine idx rfl (by omega) (by show (k7 : Int) < ((s.length + 1 : Nat) : Int); omega) ?_
          refine stoi 0 hs5 (i := k7) (v := .bool true) rfl (Nat.mul_one _) rfl (by have := hr7.1; omega) ?_
          intro w6 hs6
          refine next w6 _ _ rfl hs6 (hr7.set (by omega) ?_) _ rfl
          show true = mb (p.take (i + 1)) (s.take k7)
          rw [hp1]
          cases k7 with
          | zero => rw [mb_star_0, he]
          | succ m => rw [mb_star_s _ _ m (by omega), he]; rfl
        · refine cd (fun h0 => ?_) (fun h0 => ?_)
          · have h0 : (0 : Int) < k7 := h0
            have hw : IntKind.i64.wrap ((k7 : Int) - 1) = ((k7 - 1 : Nat) : Int) := wSub (a := k7) (b := 1) (by omega) (by omega)
            refine idx rfl (by show (0 : Int) ≤ IntKind.i64.wrap ((k7 : Int) - 1); omega) (by show IntKind.i64.wrap ((k7 : Int) - 1) < ((s.length + 1 : Nat) : Int); omega) ?_
            refine ldi 0 hs5 (i := k7 - 1) rfl (by show (IntKind.i64.wrap ((k7 : Int) - 1)).toNat * 1 = k7 - 1; rw [hw]; omega) (by rw [Nat.zero_add]; exact hr7.2.1 (k7 - 1) (by omega)) ?_
            refine idx rfl (by omega) (by show (k7 : Int) < ((s.length + 1 : Nat) : Int); omega) ?_
            refine stoi 0 hs5 (i := k7) (v := .bool (mb (p.take (i + 1)) (s.take (k7 - 1)))) rfl (Nat.mul_one _) rfl (by have := hr7.1; omega) ?_
            intro w6 hs6
            refine next w6 _ _ rfl hs6 (hr7.set (by omega) ?_) _ rfl
            show _ = mb (p.take (i + 1)) (s.take k7)
            cases k7 with
            | zero => omega
            | succ m => rw [hp1, mb_star_s _ _ m (by omega), he]; rfl
          · have h0 : ¬ (0 : Int) < k7 := h0
            have : k7 = 0 := by omega
            subst this
            refine idx rfl (by decide) (by show (0 : Int) < ((s.length + 1 : Nat) : Int); omega) ?_
            refine stoi 0 hs5 (i := 0) (v := .bool false) rfl rfl rfl (by have := hr7.1; omega) ?_
            intro w6 hs6
            refine next w6 _ _ rfl hs6 (hr7.set (by omega) ?_) _ rfl
            show false = mb (p.take (i + 1)) (s.take 0)
            rw [hp1, mb_star_0, he]
      · have hc42 : p.getD i 0 ≠ 42 := fun e => h42 (by show (((p.getD i 0).toNat : Nat) : Int) = 42; rw [e]; rfl)
        refine cd (fun h0 => ?_) (fun h0 => ?_)
        · have h0 : (0 : Int) < k7 := h0
          have hw : IntKind.i64.wrap ((k7 : Int) - 1) = ((k7 - 1 : Nat) : Int) := wSub (a := k7) (b := 1) (by omega) (by omega)
          have hb5 : w5.heap[b]? = some (.cells ⟨cs⟩ tb (0, 0)) := hs5.own (.blk b (.cells ⟨cs⟩ tb (0, 0))) (by simp)
          have hb7 : w5.heap[b7]? = some (.cells ⟨cs7⟩ tb7 (0, 0)) := hs5.own (.blk b7 (.cells ⟨cs7⟩ tb7 (0, 0))) (by simp)
          have hne : ¬ b = b7 := fun e => by
            have := List.pairwise_cons.1 hs5.nd
            exact this.1 (.blk b (.cells ⟨cs⟩ tb (0, 0))) (by simp) b7 rfl e.symm
          have rd5 : ∀ w, Ch (fun bb => ∃ j, j ≠ 6 ∧ (j = 18 ∧ bb = b7)) w5 w → w.heap[b]? = some (.cells ⟨cs⟩ tb (0, 0)) := fun w hc =>
            (hc.block b (Array.getElem?_eq_some_iff.1 hb5).1 (fun ⟨j, _, _, e⟩ => hne e)).trans hb5
          have st7 : ∀ w, Ch (fun bb => ∃ j, j ≠ 18 ∧ (j = 18 ∧ bb = b7)) w5 w → ∀ d : Bool, storeW ((⟨b7, 0, none⟩ : Addr).add (k7 * 1)) [.bool d] (fun w' => Ch (fun bb => (18 : Nat) = 18 ∧ bb = b7) w w' ∧ w'.heap[b7]? = some (.cells ⟨cs7.set (0 + k7) (.bool d)⟩ tb7 (0, 0))) w := by
            intro w hc d
            have hb7' : w.heap[b7]? = some (.cells ⟨cs7⟩ tb7 (0, 0)) := (hc.block b7 (Array.getElem?_eq_some_iff.1 hb7).1 (fun ⟨j, h1, h2, _⟩ => h1 h2)).trans hb7
            exact st_at hb7' (Nat.mul_one _) rfl (by have := hr7.1; omega) (fun w' hc' h' => ⟨hc'.mono (fun _ _ e => ⟨rfl, e⟩), h'⟩)
          have hck2 : cs[0 + (IntKind.i64.wrap ((k7 : Int) - 1)).toNat * 1]? = some (.bool (mb (p.take i) (s.take (k7 - 1)))) := by rw [Nat.zero_add, Nat.mul_one, hw, Int.toNat_natCast]; exact hr.2.1 (k7 - 1) (by omega)
          have hk1 : k7 = (k7 - 1) + 1 := by omega
          have hlit := mb_lit_s hc42 (p.take i) s (k7 - 1) (by omega)
          rw [← hk1, ← hp1] at hlit
          cases hm : mb (p.take i) (s.take (k7 - 1)) with
          | true =>
            rw [hm] at hck2 hlit
            refine draw good [.v (.slice (some ⟨b7, 0, none⟩) (s.length + 1) (s.length + 1)),
              .v (.int .i64 k7),
              .v (.slice (some ⟨b, 0, none⟩) (s.length + 1) (s.length + 1)),
              .v (.int .i64 k7),
              .v (.int .i64 (IntKind.i64.wrap ((k7 : Int) - 1))),
              .v (.pointer (some ((⟨b, 0, none⟩ : Addr).add ((IntKind.i64.wrap ((k7 : Int) - 1)).toNat * 1)))),
              .v (.bool true),
              .v (.bool true),
              .v (.string (bs s)),
              .v (.int .i64 k7),
              .v (.int .i64 (IntKind.i64.wrap ((k7 : Int) - 1))),
              .v (.int .u8 (s.getD (IntKind.i64.wrap ((k7 : Int) - 1)).toNat 0).toNat),
              .v (.string (bs p)),
              .v (.int .i64 i),
              .v (.int .u8 (p.getD i 0).toNat),
              .v (.bool (decide (((s.getD (IntKind.i64.wrap ((k7 : Int) - 1)).toNat 0).toNat : Int) = ((p.getD i 0).toNat : Int)))),
              .v (.bool (decide (((s.getD (IntKind.i64.wrap ((k7 : Int) - 1)).toNat 0).toNat : Int) = ((p.getD i 0).toNat : Int)))),
              .v (.pointer (some ((⟨b7, 0, none⟩ : Addr).add (k7 * 1)))),
              .s (fun u w6 => w6.heap[b7]? = some (.cells ⟨cs7.set (0 + k7) (.bool (decide (((s.getD (IntKind.i64.wrap ((k7 : Int) - 1)).toNat 0).toNat : Int) = ((p.getD i 0).toNat : Int))))⟩ tb7 (0, 0)))]
              (fun j bb => j = 18 ∧ bb = b7) rfl (fun i j f hij hf u w w' hu hc => ?_) ⟨fun e w hc => ⟨Ch.refl _ _, rfl⟩,
              fun e w hc => ⟨Ch.refl _ _, rfl⟩,
              fun e w hc => ⟨Ch.refl _ _, rfl⟩,
              fun e w hc => ⟨Ch.refl _ _, rfl⟩,
              fun e w hc => ⟨Ch.refl _ _, rfl⟩,
              fun e w hc => idx rfl (by show (0 : Int) ≤ IntKind.i64.wrap ((k7 : Int) - 1); omega) (by show IntKind.i64.wrap ((k7 : Int) - 1) < ((s.length + 1 : Nat) : Int); omega) ⟨Ch.refl _ _, rfl⟩,
              fun e w hc => ldc1 (cell_at (rd5 w hc) hck2) ⟨Ch.refl _ _, rfl⟩,
              fun e w hc => ⟨Ch.refl _ _, rfl⟩,
              fun e w hc => ⟨Ch.refl _ _, rfl⟩,
              fun e w hc => ⟨Ch.refl _ _, rfl⟩,
              fun e w hc => ⟨Ch.refl _ _, rfl⟩,
              fun e w hc => req ⟨by show (0 : Int) ≤ IntKind.i64.wrap ((k7 : Int) - 1); omega, by show IntKind.i64.wrap ((k7 : Int) - 1) < (s.length : Int); omega⟩ ⟨Ch.refl _ _, rfl⟩,
              fun e w hc => ⟨Ch.refl _ _, rfl⟩,
              fun e w hc => ⟨Ch.refl _ _, rfl⟩,
              fun e w hc => req ⟨by omega, h⟩ ⟨Ch.refl _ _, rfl⟩,
              fun e w hc => ⟨Ch.refl _ _, rfl⟩,
              fun e w hc => ⟨Ch.refl _ _, rfl⟩,
              fun e w hc => idx rfl (by omega) (by show (k7 : Int) < ((s.length + 1 : Nat) : Int); omega) ⟨Ch.refl _ _, rfl⟩,
              fun e w hc => st7 w hc _,
              trivial⟩ ?_
            · obtain rfl := lastS (m := 18) rfl hf
              cases hf
              exact (hc.block b7 (Array.getElem?_eq_some_iff.1 hu).1 (fun ⟨e, _⟩ => hij e)).trans hu
            · intro e w6 hc6 u hu
              refine next w6 _ _ rfl (hs5.upd (i := 0) rfl (hc6.mono fun _ _ ⟨_, _, e⟩ => e) (x' := .blk b7 _) hu (fun _ h => .inl h)) (hr7.set (by omega) ?_) _ rfl
              show _ = mb (p.take (i + 1)) (s.take k7)
              rw [hlit, hw, Int.toNat_natCast, Bool.true_and]
              exact decide_eq_decide.2 u8eq
          | false =>
            rw [hm] at hck2 hlit
            refine draw good [.v (.slice (some ⟨b7, 0, none⟩) (s.length + 1) (s.length + 1)),
              .v (.int .i64 k7),
              .v (.slice (some ⟨b, 0, none⟩) (s.length + 1) (s.length + 1)),
              .v (.int .i64 k7),
              .v (.int .i64 (IntKind.i64.wrap ((k7 : Int) - 1))),
              .v (.pointer (some ((⟨b, 0, none⟩ : Addr).add ((IntKind.i64.wrap ((k7 : Int) - 1)).toNat * 1)))),
              .v (.bool false),
              .v (.bool false),
              .v undef,
              .v undef,
              .v undef,
              .v undef,
              .v undef,
              .v undef,
              .v undef,
              .v undef,
              .v (.bool false),
              .v (.pointer (some ((⟨b7, 0, none⟩ : Addr).add (k7 * 1)))),
              .s (fun u w6 => w6.heap[b7]? = some (.cells ⟨cs7.set (0 + k7) (.bool false)⟩ tb7 (0, 0)))]
              (fun j bb => j = 18 ∧ bb = b7) rfl (fun i j f hij hf u w w' hu hc => ?_) ⟨fun e w hc => ⟨Ch.refl _ _, rfl⟩,
              fun e w hc => ⟨Ch.refl _ _, rfl⟩,
              fun e w hc => ⟨Ch.refl _ _, rfl⟩,
              fun e w hc => ⟨Ch.refl _ _, rfl⟩,
              fun e w hc => ⟨Ch.refl _ _, rfl⟩,
              fun e w hc => idx rfl (by show (0 : Int) ≤ IntKind.i64.wrap ((k7 : Int) - 1); omega) (by show IntKind.i64.wrap ((k7 : Int) - 1) < ((s.length + 1 : Nat) : Int); omega) ⟨Ch.refl _ _, rfl⟩,
              fun e w hc => ldc1 (cell_at (rd5 w hc) hck2) ⟨Ch.refl _ _, rfl⟩,
              fun e w hc => ⟨Ch.refl _ _, rfl⟩,
              fun e w hc => ⟨Ch.refl _ _, rfl⟩,
              fun e w hc => ⟨Ch.refl _ _, rfl⟩,
              fun e w hc => ⟨Ch.refl _ _, rfl⟩,
              fun e w hc => ⟨Ch.refl _ _, rfl⟩,
              fun e w hc => ⟨Ch.refl _ _, rfl⟩,
              fun e w hc => ⟨Ch.refl _ _, rfl⟩,
              fun e w hc => ⟨Ch.refl _ _, rfl⟩,
              fun e w hc => ⟨Ch.refl _ _, rfl⟩,
              fun e w hc => ⟨Ch.refl _ _, rfl⟩,
              fun e w hc => idx rfl (by omega) (by show (k7 : Int) < ((s.length + 1 : Nat) : Int); omega) ⟨Ch.refl _ _, rfl⟩,
              fun e w hc => st7 w hc _,
              trivial⟩ ?_
            · obtain rfl := lastS (m := 18) rfl hf
              cases hf
              exact (hc.block b7 (Array.getElem?_eq_some_iff.1 hu).1 (fun ⟨e, _⟩ => hij e)).trans hu
            · intro e w6 hc6 u hu
              refine next w6 _ _ rfl (hs5.upd (i := 0) rfl (hc6.mono fun _ _ ⟨_, _, e⟩ => e) (x' := .blk b7 _) hu (fun _ h => .inl h)) (hr7.set (by omega) ?_) _ rfl
              show _ = mb (p.take (i + 1)) (s.take k7)
              rw [hlit]; rfl
        · have h0 : ¬ (0 : Int) < k7 := h0
          have : k7 = 0 := by omega
          subst this
          refine next w5 _ _ rfl hs5 (hr7.skip (by omega) ?_) _ rfl
          show mb (p.take (i + 1)) (s.take 0) = false
          rw [hp1, mb_lit_0 hc42]
    · have h7 : ¬ (k7 : Int) ≤ s.length := h7
      have : k7 = s.length + 1 := by omega
      subst this
      refine hZ (i + 1) _ _ ⟨b7, cs7, tb7, ?_, hs5.drop 1, by omega, hr7⟩ (by omega)
      exact ce rfl (ce rfl (ce rfl (ce (vI (w64p i (by omega))) rfl)))
  · have h : ¬ (i : Int) < p.length := h
    have hip : i = p.length := by omega
    refine idx rfl (by omega) (by show (s.length : Int) < ((s.length + 1 : Nat) : Int); omega) ?_
    refine ldi 0 hs3 (i := s.length) rfl (Nat.mul_one _) (by rw [Nat.zero_add]; exact hr.2.1 s.length (by omega)) ?_
    refine finB (k _ (hs3.drop 0)) ?_
    show mb (p.take i) (s.take s.length) = _
    rw [hip, List.take_length, List.take_length]
end
end B
end Go.Proofs.YtdbihpobfcbmeaaDoor
