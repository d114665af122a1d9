/- A part of the proof: lemmas and contracts of functions. -/
import Derived.Test.YtdciogjhkckigaaDoorIxZa
namespace Go.Proofs.YtdciogjhkckigaaDoor
open Go Go.Ab
set_option linter.unusedSectionVars false
set_option linter.unusedVariables false
variable [Amb]
set_option maxRecDepth 100000
set_option maxHeartbeats 16000000

theorem sym_all : ∀ (size : Nat) (l : List Entry) (a m b : Nat), b - a ≤ size → a < m → m < b → b ≤ l.length → l.length ≤ 16777216 → SortedG l a m → SortedG l m b →
    ∃ l', SortAt l a b l' ∧ ACallsM Tryd.prog 99 (symArgs l a m b) (.tup []) (symOuts l') := by
  intro size
  induction size with
  | zero => intro l a m b h1 h2 h3; omega
  | succ size ih =>
  intro l a m b hsz ham hmb hb hl hA hB
  by_cases hm1 : m = a + 1
  · exact sym_first l a m b hm1 hmb hb hl hB
  by_cases hb1 : b = m + 1
  · exact sym_last l a m b (by omega) hb1 hb hl hA
  refine ACallsM.ofE (SortAt l a b) (fun _ => .tup []) (fun l' => symOuts l') mixed (fn := Tryd.f99) (by kernel_rfl) (by kernel_rfl) rfl (by kernel_rfl) 1 (fun _ => rfl) (by kernel_rfl) (fun _ => rfl) (by simp [Tryd.f99]) ?_
  obtain ⟨d, ed⟩ : ∃ d, d = m - a := ⟨_, rfl⟩
  obtain ⟨f, ef⟩ : ∃ d, d = b - m := ⟨_, rfl⟩
  have w0 : IntKind.i64.wrap ((m : Int) - a) = (d : Nat) := by rw [wrap_id (by omega)]; omega
  have wd : ((d : Int) = 1) = False := eq_false (by omega)
  have w1 : IntKind.i64.wrap ((b : Int) - m) = (f : Nat) := by rw [wrap_id (by omega)]; omega
  have wf : ((f : Int) = 1) = False := eq_false (by omega)
  obtain ⟨t, et⟩ : ∃ t, t = a + b := ⟨_, rfl⟩
  obtain ⟨mid, emid⟩ : ∃ h, h = t / 2 := ⟨_, rfl⟩
  have w2 : IntKind.i64.wrap ((a : Int) + b) = (t : Nat) := by rw [wrap_id (by omega)]; omega
  have w3 := half_wrap (x := t) (by omega)
  rw [← emid] at w3
  obtain ⟨n, en⟩ : ∃ n, n = mid + m := ⟨_, rfl⟩
  have w4 : IntKind.i64.wrap ((mid : Int) + m) = (n : Nat) := by rw [wrap_id (by omega)]; omega
  obtain ⟨p, ep⟩ : ∃ n, n = mid + m - 1 := ⟨_, rfl⟩
  have w5 : IntKind.i64.wrap ((n : Int) - 1) = (p : Nat) := by rw [wrap_id (by omega)]; omega
  have hcase : ∃ lo hi : Nat, ((mid < m ∧ lo + b = n ∧ hi = mid) ∨ (¬ mid < m ∧ lo = a ∧ hi = m)) ∧ (lo = a ∨ lo + b = mid + m) ∧ a ≤ lo ∧ (hi = mid ∨ hi = m) ∧ (hi ≤ m ∧ hi ≤ mid) ∧ mid + m ≤ lo + b ∧ lo ≤ hi := by
    by_cases h : mid < m
    · exact ⟨n - b, mid, .inl ⟨h, by omega, rfl⟩, .inr (by omega), by omega, .inl rfl, by omega, by omega, by omega⟩
    · exact ⟨a, m, .inr ⟨h, rfl, rfl⟩, .inl rfl, by omega, .inr rfl, by omega, by omega, by omega⟩
  obtain ⟨lo, hi, hsel, hlo, hla, hhi, hhm, hlb, hlohi⟩ := hcase
  have hmono : ∀ c c', lo ≤ c' → c' ≤ c → c < hi → ¬ Before (gE l (mid + m - 1 - c)) (gE l c) → ¬ Before (gE l (mid + m - 1 - c')) (gE l c') := fun c c' h1 h2 h3 h =>
    Before.le (Before.le (hA.le (by omega) h2 (by omega)) h) (hB.le (by omega) (by omega) (by omega))
  have w6 : mid < m → IntKind.i64.wrap ((n : Int) - b) = (lo : Nat) := fun h => by rw [wrap_id (by omega)]; omega
  rcases hsel with ⟨hc, e1, e2⟩ | ⟨hc, e1, e2⟩
  · have w7 := w6 hc
    simp -implicitDefEqProofs [w0, wd, w1, wf, w2, w3, w4, w5, w7, hc]
    refine ALoopS.of (Nat × Nat) (fun x => [(0, ownE l), (1, .x (.one (.int .i64 a))), (2, .x (.one (.int .i64 m))), (3, .x (.one (.int .i64 b))), (4, .x (.one cmpV)), (18, .x (.one (.int .i64 mid))), (19, .x (.one (.int .i64 n))), (20, .x (.one (.int .i64 x.1))), (21, .x (.one (.int .i64 x.2))), (22, .x (.one (.int .i64 p)))]) (fun x => Bin (fun c => ¬ Before (gE l (mid + m - 1 - c)) (gE l c)) lo hi x.1 x.2) (fun x => x.2 - x.1) (lo, hi) (.zero hlohi) ?_ ?_
    · simp [e1, e2]
    rintro ⟨s, r⟩ hbin
    dsimp only at hbin ⊢
    have hli := hbin.li; have hij := hbin.ij; have hjh := hbin.jh
    by_cases hlt : s < r
    · obtain ⟨v, ev⟩ : ∃ t, t = s + r := ⟨_, rfl⟩
      obtain ⟨c, ec⟩ : ∃ h, h = v / 2 := ⟨_, rfl⟩
      have w8 : IntKind.i64.wrap ((s : Int) + r) = (v : Nat) := by rw [wrap_id (by omega)]; omega
      have w9 := half_wrap (x := v) (by omega)
      rw [← ec] at w9
      obtain ⟨q, eq⟩ : ∃ q, q = mid + m - 1 - c := ⟨_, rfl⟩
      have w10 : IntKind.i64.wrap ((p : Int) - c) = (q : Nat) := by rw [wrap_id (by omega)]; omega
      have w11 : IntKind.i64.wrap ((c : Int) + 1) = (c + 1 : Nat) := by rw [wrap_id (by omega)]; omega
      have h1 : c < l.length := by omega
      have h2 : q < l.length := by omega
      simp -implicitDefEqProofs [hlt, w8, w9]
      refine AltR.l ?_
      simp -implicitDefEqProofs [w10, h1, h2]
      refine ACallK.of (index_compare _ _) ?_
      have hcm := cmpE_neg (a := l[q]) (b := l[c])
      rw [gE_get h1, gE_get h2] at hcm
      by_cases hbf : cmpE l[q] l[c] < 0
      · simp -implicitDefEqProofs [hbf]
        rw [gE_get h1, gE_get h2] at hbf
        refine Again.of (s, c) (hbin.down hmono (by omega) (by omega) (fun h => h (eq ▸ hcm.1 hbf))) (by dsimp only; omega) ?_
        simp
      · simp -implicitDefEqProofs [hbf, w11]
        rw [gE_get h1, gE_get h2] at hbf
        refine Again.of (c + 1, r) (hbin.up hmono (by omega) (by omega) (fun h => hbf (hcm.2 (eq ▸ h)))) (by dsimp only; omega) ?_
        simp
    · have : s = r := by omega
      subst this
      obtain ⟨e, ee⟩ : ∃ e, e = mid + m - s := ⟨_, rfl⟩
      have w10 : IntKind.i64.wrap ((n : Int) - s) = (e : Nat) := by rw [wrap_id (by omega)]; omega
      obtain ⟨x1, R1, r1⟩ : ∃ x1, RotAt l s m e x1 ∧ (s < m ∧ m < e → ACallsM Tryd.prog 109 [ownE l, .x (.one (.int .i64 s)), .x (.one (.int .i64 m)), .x (.one (.int .i64 e)), .x (.one cmpV)] (.tup []) [ownE x1, .dead, .dead, .dead, .dead]) ∧ (¬ (s < m ∧ m < e) → x1 = l) := by
        by_cases h : s < m ∧ m < e
        · obtain ⟨x1, h1, h2⟩ := slices_rotate l s m e cmpV h.1 h.2 (by omega) hl
          exact ⟨x1, h1, fun _ => h2, fun h' => absurd h h'⟩
        · exact ⟨l, .same (by omega) (by omega) h, fun h' => absurd h' h, fun _ => rfl⟩
      obtain ⟨r1, r1n⟩ := r1
      have hH : Halves x1 a s mid e b := halves (lo := lo) (hi := hi) hA hB ham hmb (by omega) hlo hla hhi hhm (by omega) hlb hbin R1
      have l1 := R1.len
      obtain ⟨x2, S2, r2⟩ : ∃ x2, SortAt x1 a mid x2 ∧ (a < s ∧ s < mid → ACallsM Tryd.prog 99 (symArgs x1 a s mid) (.tup []) (symOuts x2)) ∧ (¬ (a < s ∧ s < mid) → x2 = x1) := by
        by_cases h : a < s ∧ s < mid
        · obtain ⟨x2, h1, h2⟩ := ih x1 a s mid (by omega) h.1 h.2 (by omega) (by omega) hH.s1 hH.s2
          exact ⟨x2, h1, fun _ => h2, fun h' => absurd h h'⟩
        · refine ⟨x1, .same ?_, fun h' => absurd h' h, fun _ => rfl⟩
          by_cases h' : a < s
          · exact hH.s1.sub (Nat.le_refl _) (by omega)
          · exact hH.s2.sub (by omega) (Nat.le_refl _)
      obtain ⟨r2, r2n⟩ := r2
      have l2 := S2.len
      obtain ⟨x3, S3, r3⟩ : ∃ x3, SortAt x2 mid b x3 ∧ (mid < e ∧ e < b → ACallsM Tryd.prog 99 (symArgs x2 mid e b) (.tup []) (symOuts x3)) ∧ (¬ (mid < e ∧ e < b) → x3 = x2) := by
        by_cases h : mid < e ∧ e < b
        · obtain ⟨x3, h1, h2⟩ := ih x2 mid e b (by omega) h.1 h.2 (by omega) (by omega) (S2.keep (Nat.le_refl _) hH.s3) (S2.keep (by omega) hH.s4)
          exact ⟨x3, h1, fun _ => h2, fun h' => absurd h h'⟩
        · refine ⟨x2, .same ?_, fun h' => absurd h' h, fun _ => rfl⟩
          by_cases h' : mid < e
          · exact (S2.keep (Nat.le_refl _) hH.s3).sub (Nat.le_refl _) (by omega)
          · exact (S2.keep (by omega) hH.s4).sub (by omega) (Nat.le_refl _)
      obtain ⟨r3, r3n⟩ := r3
      have fin : SortAt l a b x3 := sym_done hb R1 hH S2 S3 (by omega) (by omega) (by omega) (by omega) (by omega) (by omega) (by omega)
      simp -implicitDefEqProofs [hlt, w10]
      refine ⟨fun k1a k1b => ?_, fun k1n => ?_⟩
      · refine ACallK.lend ?_
        simp -implicitDefEqProofs
        refine ACallM.of (r1 ⟨k1a, k1b⟩) ?_
        simp -implicitDefEqProofs
        refine ⟨fun k2a k2b => ?_, fun k2n => ?_⟩
        · refine ACallK.lend ?_
          simp -implicitDefEqProofs
          refine ACallM.of (r2 ⟨k2a, k2b⟩) ?_
          simp -implicitDefEqProofs
          refine ⟨fun k3a k3b => ?_, fun k3n => ?_⟩
          · refine ACallK.lend ?_
            simp -implicitDefEqProofs
            refine ACallM.of (r3 ⟨k3a, k3b⟩) ?_
            simp -implicitDefEqProofs
            exact EndE.of x3 fin (by simp)
          · have ex := r3n (by omega)
            subst ex
            exact EndE.of x3 fin (by simp)
        · have ex := r2n (by omega)
          subst ex
          refine ⟨fun k3a k3b => ?_, fun k3n => ?_⟩
          · refine ACallK.lend ?_
            simp -implicitDefEqProofs
            refine ACallM.of (r3 ⟨k3a, k3b⟩) ?_
            simp -implicitDefEqProofs
            exact EndE.of x3 fin (by simp)
          · have ex := r3n (by omega)
            subst ex
            exact EndE.of x3 fin (by simp)
      · have ex := r1n (by omega)
        subst ex
        refine ⟨fun k2a k2b => ?_, fun k2n => ?_⟩
        · refine ACallK.lend ?_
          simp -implicitDefEqProofs
          refine ACallM.of (r2 ⟨k2a, k2b⟩) ?_
          simp -implicitDefEqProofs
          refine ⟨fun k3a k3b => ?_, fun k3n => ?_⟩
          · refine ACallK.lend ?_
            simp -implicitDefEqProofs
            refine ACallM.of (r3 ⟨k3a, k3b⟩) ?_
            simp -implicitDefEqProofs
            exact EndE.of x3 fin (by simp)
          · have ex := r3n (by omega)
            subst ex
            exact EndE.of x3 fin (by simp)
        · have ex := r2n (by omega)
          subst ex
          refine ⟨fun k3a k3b => ?_, fun k3n => ?_⟩
          · refine ACallK.lend ?_
            simp -implicitDefEqProofs
            refine ACallM.of (r3 ⟨k3a, k3b⟩) ?_
            simp -implicitDefEqProofs
            exact EndE.of x3 fin (by simp)
          · have ex := r3n (by omega)
            subst ex
            exact EndE.of x3 fin (by simp)
  · simp -implicitDefEqProofs [w0, wd, w1, wf, w2, w3, w4, w5, hc]
    refine ALoopS.of (Nat × Nat) (fun x => [(0, ownE l), (1, .x (.one (.int .i64 a))), (2, .x (.one (.int .i64 m))), (3, .x (.one (.int .i64 b))), (4, .x (.one cmpV)), (18, .x (.one (.int .i64 mid))), (19, .x (.one (.int .i64 n))), (20, .x (.one (.int .i64 x.1))), (21, .x (.one (.int .i64 x.2))), (22, .x (.one (.int .i64 p)))]) (fun x => Bin (fun c => ¬ Before (gE l (mid + m - 1 - c)) (gE l c)) lo hi x.1 x.2) (fun x => x.2 - x.1) (lo, hi) (.zero hlohi) ?_ ?_
    · simp [e1, e2]
    rintro ⟨s, r⟩ hbin
    dsimp only at hbin ⊢
    have hli := hbin.li; have hij := hbin.ij; have hjh := hbin.jh
    by_cases hlt : s < r
    · obtain ⟨v, ev⟩ : ∃ t, t = s + r := ⟨_, rfl⟩
      obtain ⟨c, ec⟩ : ∃ h, h = v / 2 := ⟨_, rfl⟩
      have w8 : IntKind.i64.wrap ((s : Int) + r) = (v : Nat) := by rw [wrap_id (by omega)]; omega
      have w9 := half_wrap (x := v) (by omega)
      rw [← ec] at w9
      obtain ⟨q, eq⟩ : ∃ q, q = mid + m - 1 - c := ⟨_, rfl⟩
      have w10 : IntKind.i64.wrap ((p : Int) - c) = (q : Nat) := by rw [wrap_id (by omega)]; omega
      have w11 : IntKind.i64.wrap ((c : Int) + 1) = (c + 1 : Nat) := by rw [wrap_id (by omega)]; omega
      have h1 : c < l.length := by omega
      have h2 : q < l.length := by omega
      simp -implicitDefEqProofs [hlt, w8, w9]
      refine AltR.l ?_
      simp -implicitDefEqProofs [w10, h1, h2]
      refine ACallK.of (index_compare _ _) ?_
      have hcm := cmpE_neg (a := l[q]) (b := l[c])
      rw [gE_get h1, gE_get h2] at hcm
      by_cases hbf : cmpE l[q] l[c] < 0
      · simp -implicitDefEqProofs [hbf]
        rw [gE_get h1, gE_get h2] at hbf
        refine Again.of (s, c) (hbin.down hmono (by omega) (by omega) (fun h => h (eq ▸ hcm.1 hbf))) (by dsimp only; omega) ?_
        simp
      · simp -implicitDefEqProofs [hbf, w11]
        rw [gE_get h1, gE_get h2] at hbf
        refine Again.of (c + 1, r) (hbin.up hmono (by omega) (by omega) (fun h => hbf (hcm.2 (eq ▸ h)))) (by dsimp only; omega) ?_
        simp
    · have : s = r := by omega
      subst this
      obtain ⟨e, ee⟩ : ∃ e, e = mid + m - s := ⟨_, rfl⟩
      have w10 : IntKind.i64.wrap ((n : Int) - s) = (e : Nat) := by rw [wrap_id (by omega)]; omega
      obtain ⟨x1, R1, r1⟩ : ∃ x1, RotAt l s m e x1 ∧ (s < m ∧ m < e → ACallsM Tryd.prog 109 [ownE l, .x (.one (.int .i64 s)), .x (.one (.int .i64 m)), .x (.one (.int .i64 e)), .x (.one cmpV)] (.tup []) [ownE x1, .dead, .dead, .dead, .dead]) ∧ (¬ (s < m ∧ m < e) → x1 = l) := by
        by_cases h : s < m ∧ m < e
        · obtain ⟨x1, h1, h2⟩ := slices_rotate l s m e cmpV h.1 h.2 (by omega) hl
          exact ⟨x1, h1, fun _ => h2, fun h' => absurd h h'⟩
        · exact ⟨l, .same (by omega) (by omega) h, fun h' => absurd h' h, fun _ => rfl⟩
      obtain ⟨r1, r1n⟩ := r1
      have hH : Halves x1 a s mid e b := halves (lo := lo) (hi := hi) hA hB ham hmb (by omega) hlo hla hhi hhm (by omega) hlb hbin R1
      have l1 := R1.len
      obtain ⟨x2, S2, r2⟩ : ∃ x2, SortAt x1 a mid x2 ∧ (a < s ∧ s < mid → ACallsM Tryd.prog 99 (symArgs x1 a s mid) (.tup []) (symOuts x2)) ∧ (¬ (a < s ∧ s < mid) → x2 = x1) := by
        by_cases h : a < s ∧ s < mid
        · obtain ⟨x2, h1, h2⟩ := ih x1 a s mid (by omega) h.1 h.2 (by omega) (by omega) hH.s1 hH.s2
          exact ⟨x2, h1, fun _ => h2, fun h' => absurd h h'⟩
        · refine ⟨x1, .same ?_, fun h' => absurd h' h, fun _ => rfl⟩
          by_cases h' : a < s
          · exact hH.s1.sub (Nat.le_refl _) (by omega)
          · exact hH.s2.sub (by omega) (Nat.le_refl _)
      obtain ⟨r2, r2n⟩ := r2
      have l2 := S2.len
      obtain ⟨x3, S3, r3⟩ : ∃ x3, SortAt x2 mid b x3 ∧ (mid < e ∧ e < b → ACallsM Tryd.prog 99 (symArgs x2 mid e b) (.tup []) (symOuts x3)) ∧ (¬ (mid < e ∧ e < b) → x3 = x2) := by
        by_cases h : mid < e ∧ e < b
        · obtain ⟨x3, h1, h2⟩ := ih x2 mid e b (by omega) h.1 h.2 (by omega) (by omega) (S2.keep (Nat.le_refl _) hH.s3) (S2.keep (by omega) hH.s4)
          exact ⟨x3, h1, fun _ => h2, fun h' => absurd h h'⟩
        · refine ⟨x2, .same ?_, fun h' => absurd h' h, fun _ => rfl⟩
          by_cases h' : mid < e
          · exact (S2.keep (Nat.le_refl _) hH.s3).sub (Nat.le_refl _) (by omega)
          · exact (S2.keep (by omega) hH.s4).sub (by omega) (Nat.le_refl _)
      obtain ⟨r3, r3n⟩ := r3
      have fin : SortAt l a b x3 := sym_done hb R1 hH S2 S3 (by omega) (by omega) (by omega) (by omega) (by omega) (by omega) (by omega)
      simp -implicitDefEqProofs [hlt, w10]
      refine ⟨fun k1a k1b => ?_, fun k1n => ?_⟩
      · refine ACallK.lend ?_
        simp -implicitDefEqProofs
        refine ACallM.of (r1 ⟨k1a, k1b⟩) ?_
        simp -implicitDefEqProofs
        refine ⟨fun k2a k2b => ?_, fun k2n => ?_⟩
        · refine ACallK.lend ?_
          simp -implicitDefEqProofs
          refine ACallM.of (r2 ⟨k2a, k2b⟩) ?_
          simp -implicitDefEqProofs
          refine ⟨fun k3a k3b => ?_, fun k3n => ?_⟩
          · refine ACallK.lend ?_
            simp -implicitDefEqProofs
            refine ACallM.of (r3 ⟨k3a, k3b⟩) ?_
            simp -implicitDefEqProofs
            exact EndE.of x3 fin (by simp)
          · have ex := r3n (by omega)
            subst ex
            exact EndE.of x3 fin (by simp)
        · have ex := r2n (by omega)
          subst ex
          refine ⟨fun k3a k3b => ?_, fun k3n => ?_⟩
          · refine ACallK.lend ?_
            simp -implicitDefEqProofs
            refine ACallM.of (r3 ⟨k3a, k3b⟩) ?_
            simp -implicitDefEqProofs
            exact EndE.of x3 fin (by simp)
          · have ex := r3n (by omega)
            subst ex
            exact EndE.of x3 fin (by simp)
      · have ex := r1n (by omega)
        subst ex
        refine ⟨fun k2a k2b => ?_, fun k2n => ?_⟩
        · refine ACallK.lend ?_
          simp -implicitDefEqProofs
          refine ACallM.of (r2 ⟨k2a, k2b⟩) ?_
          simp -implicitDefEqProofs
          refine ⟨fun k3a k3b => ?_, fun k3n => ?_⟩
          · refine ACallK.lend ?_
            simp -implicitDefEqProofs
            refine ACallM.of (r3 ⟨k3a, k3b⟩) ?_
            simp -implicitDefEqProofs
            exact EndE.of x3 fin (by simp)
          · have ex := r3n (by omega)
            subst ex
            exact EndE.of x3 fin (by simp)
        · have ex := r2n (by omega)
          subst ex
          refine ⟨fun k3a k3b => ?_, fun k3n => ?_⟩
          · refine ACallK.lend ?_
            simp -implicitDefEqProofs
            refine ACallM.of (r3 ⟨k3a, k3b⟩) ?_
            simp -implicitDefEqProofs
            exact EndE.of x3 fin (by simp)
          · have ex := r3n (by omega)
            subst ex
            exact EndE.of x3 fin (by simp)
end Go.Proofs.YtdciogjhkckigaaDoor
