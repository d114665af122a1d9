/- A part of the proof: lemmas and contracts of functions. -/
import Derived.Test.YtklnopamfncfgaaGreatDoorIxGEc
import Derived.Shelf.Lays
import Derived.Shelf.Strings.BuilderX
import Derived.Test.YtklnopamfncfgaaGreatDoorProg
import Derived.KernelRfl
import Derived.Test.YtklnopamfncfgaaGreatDoorIxGEa
import Derived.Shelf.Strings.Repeat
import Derived.Test.YtklnopamfncfgaaGreatDoorIxGEb
namespace Go.Proofs.YtklnopamfncfgaaGreatDoor
open Go Go.Ab
set_option linter.unusedSectionVars false
variable [Amb]
set_option maxRecDepth 100000
set_option maxHeartbeats 4000000
def readD (t : List UInt8) : Addr × Int := match readA t with
  | .error k => (noAddr, k)
  | .ok a => (a, -1)
theorem readD_err {t : List UInt8} {k : Nat} (h : schemeR t = .error k) : readD t = (noAddr, (k : Int)) := by unfold readD readA; rw [h]
theorem readD_at {t : List UInt8} {n : Nat} (h : schemeR t = .ok n) : readD t = if (placeR (t.drop (n + 3))).1 = false then (noAddr, ((n + 3 + (placeR (t.drop (n + 3))).2.1 : Nat) : Int))
    else if (restR (t.drop (n + 3 + (placeR (t.drop (n + 3))).2.1))).ok = false then (noAddr, ((n + 3 + (placeR (t.drop (n + 3))).2.1 + (restR (t.drop (n + 3 + (placeR (t.drop (n + 3))).2.1))).n : Nat) : Int))
    else (⟨t.take n, (placeR (t.drop (n + 3))).2.2.1, (placeR (t.drop (n + 3))).2.2.2, (restR (t.drop (n + 3 + (placeR (t.drop (n + 3))).2.1))).path, (restR (t.drop (n + 3 + (placeR (t.drop (n + 3))).2.1))).query, (restR (t.drop (n + 3 + (placeR (t.drop (n + 3))).2.1))).hasQ,
      (restR (t.drop (n + 3 + (placeR (t.drop (n + 3))).2.1))).frag, (restR (t.drop (n + 3 + (placeR (t.drop (n + 3))).2.1))).hasF⟩, -1) := by
  unfold readD readA
  rw [h]
  simp only [List.drop_drop]
  cases (placeR (t.drop (n + 3))).1
  · rfl
  · simp only [Bool.true_eq_false, if_false]
    cases (restR (t.drop (n + 3 + (placeR (t.drop (n + 3))).2.1))).ok <;> rfl
theorem rest_doc {t : List UInt8} {e : Nat} {X : Addr × Int} {sc ho po : List UInt8} (he : e ≤ t.length)
    (hX : X = if (restR (t.drop e)).ok = false then (noAddr, ((e + (restR (t.drop e)).n : Nat) : Int)) else (⟨sc, ho, po, (restR (t.drop e)).path, (restR (t.drop e)).query, (restR (t.drop e)).hasQ, (restR (t.drop e)).frag, (restR (t.drop e)).hasF⟩, -1)) :
    (0 ≤ (docR t e).bad → X = (noAddr, (docR t e).bad)) ∧ (¬ 0 ≤ (docR t e).bad → X = (⟨sc, ho, po, (docR t e).path, (docR t e).query, (docR t e).hasQ, (docR t e).frag, (docR t e).hasF⟩, -1)) := by
  rcases docR_eq t e he with ⟨h1, h2, h3⟩ | ⟨h1, h2, h3, h4, h5, h6, h7⟩
  · rw [if_pos h2] at hX
    exact ⟨fun _ => by rw [hX, h3], fun h => absurd h1 h⟩
  · rw [if_neg (by rw [h2]; decide), h3, h4, h5, h6, h7] at hX
    exact ⟨fun h => by omega, fun _ => hX⟩
theorem whole_host (s : List UInt8) : s.takeWhile (wholeC false) = s.takeWhile hostC := by congr 1; funext c; exact wholeC_host c
theorem whole_port (s : List UInt8) : s.takeWhile (wholeC true) = s.takeWhile isDig := by congr 1; funext c; exact wholeC_port c
theorem ref1_read (t : List UInt8) (ht : t.length ≤ 2000) : ACalls Tryz.prog 79 [.one (.str t)] (.tup [.agg (readD t).1.row, .one (.int .i64 (readD t).2)]) := by
  have hsc := ref1_scheme t ht
  have hat := fun n (h : schemeR t = .ok n) => readD_at h
  have herr := fun k (h : schemeR t = .error k) => readD_err h
  obtain ⟨X, eX⟩ : ∃ X, X = readD t := ⟨_, rfl⟩
  rw [← eX]
  refine ACalls.of mixed (fn := Tryz.f79) (by kernel_rfl) (by kernel_rfl) rfl (by kernel_rfl) (by simp [Tryz.f79]) (fun hok => ?_)
  cases hs : schemeR t with
  | error k =>
    rw [hs] at hsc
    have h := herr _ hs
    rw [← eX] at h
    subst h
    simp only [rdR] at hsc
    have k0 : (0 ≤ (k : Int)) = True := eq_true (by omega)
    simp -implicitDefEqProofs
    refine ACallM.of hsc ?_
    simp -implicitDefEqProofs [k0]
    refine AltR.r ⟨[9], by kernel_rfl, ?_⟩
    simp -implicitDefEqProofs [k0]
    rfl
  | ok n =>
    rw [hs] at hsc
    have hX := hat _ hs
    rw [← eX] at hX
    have hn := schemeR_le hs
    clear eX hat herr hs
    obtain ⟨k, ek⟩ : ∃ k, k = n + 3 := ⟨_, rfl⟩
    obtain ⟨sc, esc⟩ : ∃ sc, sc = t.take n := ⟨_, rfl⟩
    simp only [← ek, ← esc] at hX hsc
    have hpl := placeR_eq (t.drop k)
    have hwh := ref1_whole t false k (-1) ht (by omega)
    rw [whole_host] at hwh
    have hxl := takeWhile_len_le hostC (t.drop k)
    rw [List.length_drop] at hxl
    obtain ⟨P, eP⟩ : ∃ P, P = placeR (t.drop k) := ⟨_, rfl⟩
    rw [← eP] at hX hpl
    obtain ⟨x, ex⟩ : ∃ x, x = (t.drop k).takeWhile hostC := ⟨_, rfl⟩
    rw [← ex] at hwh hxl hpl
    simp only [List.drop_drop] at hpl
    obtain ⟨e, ee⟩ : ∃ e, e = k + x.length := ⟨_, rfl⟩
    have ee1 : k + (x.length + 1) = e + 1 := by omega
    rw [ee1, ← ee] at hpl
    rw [← ee] at hwh
    clear eP ex
    simp only [rdR] at hsc hwh
    have hih := ref1_IsHost x
    simp -implicitDefEqProofs
    refine ACallM.of hsc ?_
    simp -implicitDefEqProofs
    refine ACallM.of hwh ?_
    simp -implicitDefEqProofs
    refine ACallK.of hih ?_
    cases bh : hostB x
    · rw [if_pos bh] at hpl
      rw [hpl] at hX
      simp only [if_true, Nat.add_zero] at hX
      subst hX
      simp -implicitDefEqProofs
      rfl
    rw [if_neg (by simp [bh])] at hpl
    by_cases h58 : (t.drop e).head? = some 58
    rotate_left
    · rw [if_neg h58] at hpl
      have hcol : ∀ h : e < t.length, ((t[e].toNat : Int) = 58) = False := fun h => u8_int_ne 58 (by omega) (fun hh => h58 (by rw [head_drop h, hh]; rfl))
      have hcol2 : ∀ h : e < t.length, ((t[e].toNat : Int) == 58) = false := fun h => by have := hcol h; simpa using this
      rw [hpl] at hX
      simp only [← ee] at hX
      by_cases hlt : e < t.length
      rotate_left
      · have hlt' : ((e : Int) < (t.length : Int)) = False := eq_false (by omega)
        rw [endB_end hlt] at hX
        simp only [Bool.true_eq_false, if_false] at hX
        have hD := rest_doc (by omega) hX
        simp -implicitDefEqProofs [hlt, hlt']
        refine ACallGS.of (fun h => by cases h) (r := .x (.one (.int .i64 0))) rfl ?_
        have he : e ≤ t.length := by omega
        clear hX
        have hr1 := ref1_row t [63, 35] e (-1) ht he hex_63_35
        have hu1 := stopW_len [63, 35] (t.drop e)
        rw [List.length_drop] at hu1
        unfold docR at hD
        simp only at hD
        obtain ⟨b1, eb1⟩ : ∃ b, b = rowBadN [63, 35] (t.drop e) e (-1) := ⟨_, rfl⟩
        obtain ⟨u1, eu1⟩ : ∃ u, u = stopW [63, 35] (t.drop e) := ⟨_, rfl⟩
        obtain ⟨k1, ek1⟩ : ∃ k, k = e + u1.length := ⟨_, rfl⟩
        rw [← eb1, ← eu1, ← ek1] at hr1
        rw [← eb1, ← eu1, ← ek1] at hD
        rw [← eu1] at hu1
        clear eb1 eu1
        simp only [rdR] at hr1
        simp -implicitDefEqProofs [hlt, hlt']
        refine ACallM.of hr1 ?_
        by_cases hq : (t.drop k1).head? = some 63
        · have hQ : docQ t k1 b1 = (stopW [35] (t.drop (k1 + 1)), true, k1 + 1 + (stopW [35] (t.drop (k1 + 1))).length, rowBadN [35] (t.drop (k1 + 1)) (k1 + 1) b1) := by unfold docQ; rw [if_pos hq]
          rw [hQ] at hD
          simp only at hD
          have hl1 := head_lt hq
          have hl1' : ((k1 : Int) < (t.length : Int)) = True := eq_true (by omega)
          have hc1 : t[k1] = 63 := by have := head_drop hl1; rw [hq] at this; exact (Option.some.inj this).symm
          have f3 : ((t[k1].toNat : Int) = 63) = True := eq_true ((u8_int 63 (by omega)).2 hc1)
          have f4 : ((t[k1].toNat : Int) == 63) = true := by simpa using f3
          obtain ⟨j1, ej1⟩ : ∃ j, j = k1 + 1 := ⟨_, rfl⟩
          have wj1 : IntKind.i64.wrap ((k1 : Int) + 1) = (j1 : Int) := by rw [wrapS _ (by omega)]; omega
          rw [← ej1] at hD
          have hr2 := ref1_row t [35] j1 b1 ht (by omega) hex_35
          have hu2 := stopW_len [35] (t.drop j1)
          rw [List.length_drop] at hu2
          obtain ⟨b2, eb2⟩ : ∃ b, b = rowBadN [35] (t.drop j1) j1 b1 := ⟨_, rfl⟩
          obtain ⟨u2, eu2⟩ : ∃ u, u = stopW [35] (t.drop j1) := ⟨_, rfl⟩
          obtain ⟨k2, ek2⟩ : ∃ k, k = j1 + u2.length := ⟨_, rfl⟩
          rw [← eb2, ← eu2, ← ek2] at hr2
          rw [← eb2, ← eu2, ← ek2] at hD
          rw [← eu2] at hu2
          clear eb2 eu2
          simp only [rdR] at hr2
          simp -implicitDefEqProofs [hl1, hl1', f3, f4, wj1]
          refine ACallM.of hr2 ?_
          by_cases hl2 : k2 < t.length
          · have hl2' : ((k2 : Int) < (t.length : Int)) = True := eq_true (by omega)
            have hF : docF t k2 b2 = (stopW [] (t.drop (k2 + 1)), true, rowBadN [] (t.drop (k2 + 1)) (k2 + 1) b2) := by unfold docF; rw [if_pos hl2]
            rw [hF] at hD
            simp only at hD
            obtain ⟨j2, ej2⟩ : ∃ j, j = k2 + 1 := ⟨_, rfl⟩
            have wj2 : IntKind.i64.wrap ((k2 : Int) + 1) = (j2 : Int) := by rw [wrapS _ (by omega)]; omega
            rw [← ej2] at hD
            have hr3 := ref1_row t [] j2 b2 ht (by omega) hex_none
            obtain ⟨b3, eb3⟩ : ∃ b, b = rowBadN [] (t.drop j2) j2 b2 := ⟨_, rfl⟩
            obtain ⟨u3, eu3⟩ : ∃ u, u = stopW [] (t.drop j2) := ⟨_, rfl⟩
            rw [← eb3, ← eu3] at hr3 hD
            clear eb3 eu3
            simp only [rdR] at hr3
            simp -implicitDefEqProofs [hl2, hl2', wj2]
            refine ACallM.of hr3 ?_
            by_cases hb : 0 ≤ b3
            · have h := hD.1 hb
              subst h
              simp -implicitDefEqProofs [hb]
              refine AltR.r ⟨[9], by kernel_rfl, ?_⟩
              simp -implicitDefEqProofs
              rfl
            · have h := hD.2 hb
              subst h
              have hb' : (0 ≤ b3) = False := eq_false hb
              simp -implicitDefEqProofs [hb', hb, Addr.row]
          · have hl2' : ((k2 : Int) < (t.length : Int)) = False := eq_false (by omega)
            have hF : docF t k2 b2 = ([], false, b2) := by unfold docF; rw [if_neg hl2]
            rw [hF] at hD
            simp only at hD
            by_cases hb : 0 ≤ b2
            · have h := hD.1 hb
              subst h
              simp -implicitDefEqProofs [hl2, hl2', hb]
              refine AltR.r ⟨[9], by kernel_rfl, ?_⟩
              simp -implicitDefEqProofs
              rfl
            · have h := hD.2 hb
              subst h
              have hb' : (0 ≤ b2) = False := eq_false hb
              simp -implicitDefEqProofs [hl2, hl2', hb', hb, Addr.row]
        · have hQ : docQ t k1 b1 = ([], false, k1, b1) := by unfold docQ; rw [if_neg hq]
          rw [hQ] at hD
          simp only at hD
          by_cases hl1 : k1 < t.length
          · have hl1' : ((k1 : Int) < (t.length : Int)) = True := eq_true (by omega)
            have hc1 : ¬ t[k1] = 63 := fun h => hq (by rw [head_drop hl1, h])
            have f3 : ((t[k1].toNat : Int) = 63) = False := u8_int_ne 63 (by omega) hc1
            have f4 : ((t[k1].toNat : Int) == 63) = false := by simpa using f3
            simp -implicitDefEqProofs [hl1, hl1', f3, f4]
            have hl2' : ((k1 : Int) < (t.length : Int)) = True := eq_true (by omega)
            have hF : docF t k1 b1 = (stopW [] (t.drop (k1 + 1)), true, rowBadN [] (t.drop (k1 + 1)) (k1 + 1) b1) := by unfold docF; rw [if_pos hl1]
            rw [hF] at hD
            simp only at hD
            obtain ⟨j2, ej2⟩ : ∃ j, j = k1 + 1 := ⟨_, rfl⟩
            have wj2 : IntKind.i64.wrap ((k1 : Int) + 1) = (j2 : Int) := by rw [wrapS _ (by omega)]; omega
            rw [← ej2] at hD
            have hr3 := ref1_row t [] j2 b1 ht (by omega) hex_none
            obtain ⟨b3, eb3⟩ : ∃ b, b = rowBadN [] (t.drop j2) j2 b1 := ⟨_, rfl⟩
            obtain ⟨u3, eu3⟩ : ∃ u, u = stopW [] (t.drop j2) := ⟨_, rfl⟩
            rw [← eb3, ← eu3] at hr3 hD
            clear eb3 eu3
            simp only [rdR] at hr3
            simp -implicitDefEqProofs [hl1, hl2', wj2]
            refine ACallM.of hr3 ?_
            by_cases hb : 0 ≤ b3
            · have h := hD.1 hb
              subst h
              simp -implicitDefEqProofs [hb]
              refine AltR.r ⟨[9], by kernel_rfl, ?_⟩
              simp -implicitDefEqProofs
              rfl
            · have h := hD.2 hb
              subst h
              have hb' : (0 ≤ b3) = False := eq_false hb
              simp -implicitDefEqProofs [hb', hb, Addr.row]
          · have hl1' : ((k1 : Int) < (t.length : Int)) = False := eq_false (by omega)
            have hF : docF t k1 b1 = ([], false, b1) := by unfold docF; rw [if_neg hl1]
            rw [hF] at hD
            simp only at hD
            by_cases hb : 0 ≤ b1
            · have h := hD.1 hb
              subst h
              simp -implicitDefEqProofs [hl1, hl1', hb]
              refine AltR.r ⟨[9], by kernel_rfl, ?_⟩
              simp -implicitDefEqProofs
              rfl
            · have h := hD.2 hb
              subst h
              have hb' : (0 ≤ b1) = False := eq_false hb
              simp -implicitDefEqProofs [hl1, hl1', hb', hb, Addr.row]
      have hlt' : ((e : Int) < (t.length : Int)) = True := eq_true (by omega)
      have hbk := atByte_back t[e]
      have hbk2 : decide (atByte [47, 63, 35] t[e] < 0) = !(backC t[e]) := by
        rw [← hbk, Bool.eq_iff_iff]; simp
      rw [endB_drop hlt] at hX
      cases bb : backC t[e]
      · rw [bb] at hX hbk2
        simp only [if_true] at hX
        subst hX
        simp -implicitDefEqProofs [hcol hlt, hcol2 hlt, hlt, hlt']
        refine ACallGS.of (fun _ => strings_IndexByte [47, 63, 35] t[e]) rfl ?_
        simp -implicitDefEqProofs [hbk2]
        refine AltR.r ⟨[9], by kernel_rfl, ?_⟩
        simp -implicitDefEqProofs
        rfl
      rw [bb] at hX hbk2
      simp only [Bool.true_eq_false, if_false] at hX
      have hD := rest_doc (by omega) hX
      simp -implicitDefEqProofs [hcol hlt, hcol2 hlt, hlt, hlt']
      refine ACallGS.of (fun _ => strings_IndexByte [47, 63, 35] t[e]) rfl ?_
      have he : e ≤ t.length := by omega
      clear hX
      have hr1 := ref1_row t [63, 35] e (-1) ht he hex_63_35
      have hu1 := stopW_len [63, 35] (t.drop e)
      rw [List.length_drop] at hu1
      unfold docR at hD
      simp only at hD
      obtain ⟨b1, eb1⟩ : ∃ b, b = rowBadN [63, 35] (t.drop e) e (-1) := ⟨_, rfl⟩
      obtain ⟨u1, eu1⟩ : ∃ u, u = stopW [63, 35] (t.drop e) := ⟨_, rfl⟩
      obtain ⟨k1, ek1⟩ : ∃ k, k = e + u1.length := ⟨_, rfl⟩
      rw [← eb1, ← eu1, ← ek1] at hr1
      rw [← eb1, ← eu1, ← ek1] at hD
      rw [← eu1] at hu1
      clear eb1 eu1
      simp only [rdR] at hr1
      simp -implicitDefEqProofs [hbk2]
      refine ACallM.of hr1 ?_
      by_cases hq : (t.drop k1).head? = some 63
      · have hQ : docQ t k1 b1 = (stopW [35] (t.drop (k1 + 1)), true, k1 + 1 + (stopW [35] (t.drop (k1 + 1))).length, rowBadN [35] (t.drop (k1 + 1)) (k1 + 1) b1) := by unfold docQ; rw [if_pos hq]
        rw [hQ] at hD
        simp only at hD
        have hl1 := head_lt hq
        have hl1' : ((k1 : Int) < (t.length : Int)) = True := eq_true (by omega)
        have hc1 : t[k1] = 63 := by have := head_drop hl1; rw [hq] at this; exact (Option.some.inj this).symm
        have f3 : ((t[k1].toNat : Int) = 63) = True := eq_true ((u8_int 63 (by omega)).2 hc1)
        have f4 : ((t[k1].toNat : Int) == 63) = true := by simpa using f3
        obtain ⟨j1, ej1⟩ : ∃ j, j = k1 + 1 := ⟨_, rfl⟩
        have wj1 : IntKind.i64.wrap ((k1 : Int) + 1) = (j1 : Int) := by rw [wrapS _ (by omega)]; omega
        rw [← ej1] at hD
        have hr2 := ref1_row t [35] j1 b1 ht (by omega) hex_35
        have hu2 := stopW_len [35] (t.drop j1)
        rw [List.length_drop] at hu2
        obtain ⟨b2, eb2⟩ : ∃ b, b = rowBadN [35] (t.drop j1) j1 b1 := ⟨_, rfl⟩
        obtain ⟨u2, eu2⟩ : ∃ u, u = stopW [35] (t.drop j1) := ⟨_, rfl⟩
        obtain ⟨k2, ek2⟩ : ∃ k, k = j1 + u2.length := ⟨_, rfl⟩
        rw [← eb2, ← eu2, ← ek2] at hr2
        rw [← eb2, ← eu2, ← ek2] at hD
        rw [← eu2] at hu2
        clear eb2 eu2
        simp only [rdR] at hr2
        simp -implicitDefEqProofs [hl1, hl1', f3, f4, wj1]
        refine ACallM.of hr2 ?_
        by_cases hl2 : k2 < t.length
        · have hl2' : ((k2 : Int) < (t.length : Int)) = True := eq_true (by omega)
          have hF : docF t k2 b2 = (stopW [] (t.drop (k2 + 1)), true, rowBadN [] (t.drop (k2 + 1)) (k2 + 1) b2) := by unfold docF; rw [if_pos hl2]
          rw [hF] at hD
          simp only at hD
          obtain ⟨j2, ej2⟩ : ∃ j, j = k2 + 1 := ⟨_, rfl⟩
          have wj2 : IntKind.i64.wrap ((k2 : Int) + 1) = (j2 : Int) := by rw [wrapS _ (by omega)]; omega
          rw [← ej2] at hD
          have hr3 := ref1_row t [] j2 b2 ht (by omega) hex_none
          obtain ⟨b3, eb3⟩ : ∃ b, b = rowBadN [] (t.drop j2) j2 b2 := ⟨_, rfl⟩
          obtain ⟨u3, eu3⟩ : ∃ u, u = stopW [] (t.drop j2) := ⟨_, rfl⟩
          rw [← eb3, ← eu3] at hr3 hD
          clear eb3 eu3
          simp only [rdR] at hr3
          simp -implicitDefEqProofs [hl2, hl2', wj2]
          refine ACallM.of hr3 ?_
          by_cases hb : 0 ≤ b3
          · have h := hD.1 hb
            subst h
            simp -implicitDefEqProofs [hb]
            refine AltR.r ⟨[9], by kernel_rfl, ?_⟩
            simp -implicitDefEqProofs
            rfl
          · have h := hD.2 hb
            subst h
            have hb' : (0 ≤ b3) = False := eq_false hb
            simp -implicitDefEqProofs [hb', hb, Addr.row]
        · have hl2' : ((k2 : Int) < (t.length : Int)) = False := eq_false (by omega)
          have hF : docF t k2 b2 = ([], false, b2) := by unfold docF; rw [if_neg hl2]
          rw [hF] at hD
          simp only at hD
          by_cases hb : 0 ≤ b2
          · have h := hD.1 hb
            subst h
            simp -implicitDefEqProofs [hl2, hl2', hb]
            refine AltR.r ⟨[9], by kernel_rfl, ?_⟩
            simp -implicitDefEqProofs
            rfl
          · have h := hD.2 hb
            subst h
            have hb' : (0 ≤ b2) = False := eq_false hb
            simp -implicitDefEqProofs [hl2, hl2', hb', hb, Addr.row]
      · have hQ : docQ t k1 b1 = ([], false, k1, b1) := by unfold docQ; rw [if_neg hq]
        rw [hQ] at hD
        simp only at hD
        by_cases hl1 : k1 < t.length
        · have hl1' : ((k1 : Int) < (t.length : Int)) = True := eq_true (by omega)
          have hc1 : ¬ t[k1] = 63 := fun h => hq (by rw [head_drop hl1, h])
          have f3 : ((t[k1].toNat : Int) = 63) = False := u8_int_ne 63 (by omega) hc1
          have f4 : ((t[k1].toNat : Int) == 63) = false := by simpa using f3
          simp -implicitDefEqProofs [hl1, hl1', f3, f4]
          have hl2' : ((k1 : Int) < (t.length : Int)) = True := eq_true (by omega)
          have hF : docF t k1 b1 = (stopW [] (t.drop (k1 + 1)), true, rowBadN [] (t.drop (k1 + 1)) (k1 + 1) b1) := by unfold docF; rw [if_pos hl1]
          rw [hF] at hD
          simp only at hD
          obtain ⟨j2, ej2⟩ : ∃ j, j = k1 + 1 := ⟨_, rfl⟩
          have wj2 : IntKind.i64.wrap ((k1 : Int) + 1) = (j2 : Int) := by rw [wrapS _ (by omega)]; omega
          rw [← ej2] at hD
          have hr3 := ref1_row t [] j2 b1 ht (by omega) hex_none
          obtain ⟨b3, eb3⟩ : ∃ b, b = rowBadN [] (t.drop j2) j2 b1 := ⟨_, rfl⟩
          obtain ⟨u3, eu3⟩ : ∃ u, u = stopW [] (t.drop j2) := ⟨_, rfl⟩
          rw [← eb3, ← eu3] at hr3 hD
          clear eb3 eu3
          simp only [rdR] at hr3
          simp -implicitDefEqProofs [hl1, hl2', wj2]
          refine ACallM.of hr3 ?_
          by_cases hb : 0 ≤ b3
          · have h := hD.1 hb
            subst h
            simp -implicitDefEqProofs [hb]
            refine AltR.r ⟨[9], by kernel_rfl, ?_⟩
            simp -implicitDefEqProofs
            rfl
          · have h := hD.2 hb
            subst h
            have hb' : (0 ≤ b3) = False := eq_false hb
            simp -implicitDefEqProofs [hb', hb, Addr.row]
        · have hl1' : ((k1 : Int) < (t.length : Int)) = False := eq_false (by omega)
          have hF : docF t k1 b1 = ([], false, b1) := by unfold docF; rw [if_neg hl1]
          rw [hF] at hD
          simp only at hD
          by_cases hb : 0 ≤ b1
          · have h := hD.1 hb
            subst h
            simp -implicitDefEqProofs [hl1, hl1', hb]
            refine AltR.r ⟨[9], by kernel_rfl, ?_⟩
            simp -implicitDefEqProofs
            rfl
          · have h := hD.2 hb
            subst h
            have hb' : (0 ≤ b1) = False := eq_false hb
            simp -implicitDefEqProofs [hl1, hl1', hb', hb, Addr.row]
    · rw [if_pos h58] at hpl
      have hlt := head_lt h58
      have hlt' : ((e : Int) < (t.length : Int)) = True := eq_true (by omega)
      have hc : t[e] = 58 := by have := head_drop hlt; rw [h58] at this; exact (Option.some.inj this).symm
      have f1 : ((t[e].toNat : Int) = 58) = True := eq_true ((u8_int 58 (by omega)).2 hc)
      have f2 : ((t[e].toNat : Int) == 58) = true := by simpa using f1
      obtain ⟨j, ej⟩ : ∃ j, j = e + 1 := ⟨_, rfl⟩
      have wj : IntKind.i64.wrap ((e : Int) + 1) = (j : Int) := by rw [wrapS _ (by omega)]; omega
      rw [← ej] at hpl
      have hwp := ref1_whole t true j (-1) ht (by omega)
      rw [whole_port] at hwp
      have hpl2 := takeWhile_len_le isDig (t.drop j)
      rw [List.length_drop] at hpl2
      obtain ⟨p, ep⟩ : ∃ p, p = (t.drop j).takeWhile isDig := ⟨_, rfl⟩
      rw [← ep] at hwp hpl hpl2
      obtain ⟨m, em⟩ : ∃ m, m = j + p.length := ⟨_, rfl⟩
      have em1 : k + (x.length + 1 + p.length) = m := by omega
      rw [em1] at hpl
      rw [← em] at hwp
      simp only [rdR] at hwp
      have hip := ref1_isPort p
      clear ep
      simp -implicitDefEqProofs [hlt, hlt', f1, f2, wj]
      refine ACallM.of hwp ?_
      simp -implicitDefEqProofs
      refine ACallK.of hip ?_
      by_cases hv : portV p = 0
      · rw [if_pos hv] at hpl
        rw [hpl] at hX
        have hj : k + (x.length + 1) = j := by omega
        simp only [if_true, hj] at hX
        subst hX
        simp -implicitDefEqProofs [hv]
        rfl
      rw [if_neg hv] at hpl
      have hm : k + (x.length + 1 + p.length) = m := by omega
      rw [hpl] at hX
      simp only [hm] at hX
      by_cases hlt : m < t.length
      rotate_left
      · have hlt' : ((m : Int) < (t.length : Int)) = False := eq_false (by omega)
        rw [endB_end hlt] at hX
        simp only [Bool.true_eq_false, if_false] at hX
        have hD := rest_doc (by omega) hX
        simp -implicitDefEqProofs [hv, hlt, hlt']
        refine ACallGS.of (fun h => by cases h) (r := .x (.one (.int .i64 0))) rfl ?_
        have he : m ≤ t.length := by omega
        clear hX
        have hr1 := ref1_row t [63, 35] m (-1) ht he hex_63_35
        have hu1 := stopW_len [63, 35] (t.drop m)
        rw [List.length_drop] at hu1
        unfold docR at hD
        simp only at hD
        obtain ⟨b1, eb1⟩ : ∃ b, b = rowBadN [63, 35] (t.drop m) m (-1) := ⟨_, rfl⟩
        obtain ⟨u1, eu1⟩ : ∃ u, u = stopW [63, 35] (t.drop m) := ⟨_, rfl⟩
        obtain ⟨k1, ek1⟩ : ∃ k, k = m + u1.length := ⟨_, rfl⟩
        rw [← eb1, ← eu1, ← ek1] at hr1
        rw [← eb1, ← eu1, ← ek1] at hD
        rw [← eu1] at hu1
        clear eb1 eu1
        simp only [rdR] at hr1
        simp -implicitDefEqProofs [hlt, hlt']
        refine ACallM.of hr1 ?_
        by_cases hq : (t.drop k1).head? = some 63
        · have hQ : docQ t k1 b1 = (stopW [35] (t.drop (k1 + 1)), true, k1 + 1 + (stopW [35] (t.drop (k1 + 1))).length, rowBadN [35] (t.drop (k1 + 1)) (k1 + 1) b1) := by unfold docQ; rw [if_pos hq]
          rw [hQ] at hD
          simp only at hD
          have hl1 := head_lt hq
          have hl1' : ((k1 : Int) < (t.length : Int)) = True := eq_true (by omega)
          have hc1 : t[k1] = 63 := by have := head_drop hl1; rw [hq] at this; exact (Option.some.inj this).symm
          have f3 : ((t[k1].toNat : Int) = 63) = True := eq_true ((u8_int 63 (by omega)).2 hc1)
          have f4 : ((t[k1].toNat : Int) == 63) = true := by simpa using f3
          obtain ⟨j1, ej1⟩ : ∃ j, j = k1 + 1 := ⟨_, rfl⟩
          have wj1 : IntKind.i64.wrap ((k1 : Int) + 1) = (j1 : Int) := by rw [wrapS _ (by omega)]; omega
          rw [← ej1] at hD
          have hr2 := ref1_row t [35] j1 b1 ht (by omega) hex_35
          have hu2 := stopW_len [35] (t.drop j1)
          rw [List.length_drop] at hu2
          obtain ⟨b2, eb2⟩ : ∃ b, b = rowBadN [35] (t.drop j1) j1 b1 := ⟨_, rfl⟩
          obtain ⟨u2, eu2⟩ : ∃ u, u = stopW [35] (t.drop j1) := ⟨_, rfl⟩
          obtain ⟨k2, ek2⟩ : ∃ k, k = j1 + u2.length := ⟨_, rfl⟩
          rw [← eb2, ← eu2, ← ek2] at hr2
          rw [← eb2, ← eu2, ← ek2] at hD
          rw [← eu2] at hu2
          clear eb2 eu2
          simp only [rdR] at hr2
          simp -implicitDefEqProofs [hl1, hl1', f3, f4, wj1]
          refine ACallM.of hr2 ?_
          by_cases hl2 : k2 < t.length
          · have hl2' : ((k2 : Int) < (t.length : Int)) = True := eq_true (by omega)
            have hF : docF t k2 b2 = (stopW [] (t.drop (k2 + 1)), true, rowBadN [] (t.drop (k2 + 1)) (k2 + 1) b2) := by unfold docF; rw [if_pos hl2]
            rw [hF] at hD
            simp only at hD
            obtain ⟨j2, ej2⟩ : ∃ j, j = k2 + 1 := ⟨_, rfl⟩
            have wj2 : IntKind.i64.wrap ((k2 : Int) + 1) = (j2 : Int) := by rw [wrapS _ (by omega)]; omega
            rw [← ej2] at hD
            have hr3 := ref1_row t [] j2 b2 ht (by omega) hex_none
            obtain ⟨b3, eb3⟩ : ∃ b, b = rowBadN [] (t.drop j2) j2 b2 := ⟨_, rfl⟩
            obtain ⟨u3, eu3⟩ : ∃ u, u = stopW [] (t.drop j2) := ⟨_, rfl⟩
            rw [← eb3, ← eu3] at hr3 hD
            clear eb3 eu3
            simp only [rdR] at hr3
            simp -implicitDefEqProofs [hl2, hl2', wj2]
            refine ACallM.of hr3 ?_
            by_cases hb : 0 ≤ b3
            · have h := hD.1 hb
              subst h
              simp -implicitDefEqProofs [hb]
              refine AltR.r ⟨[9], by kernel_rfl, ?_⟩
              simp -implicitDefEqProofs
              rfl
            · have h := hD.2 hb
              subst h
              have hb' : (0 ≤ b3) = False := eq_false hb
              simp -implicitDefEqProofs [hb', hb, Addr.row]
          · have hl2' : ((k2 : Int) < (t.length : Int)) = False := eq_false (by omega)
            have hF : docF t k2 b2 = ([], false, b2) := by unfold docF; rw [if_neg hl2]
            rw [hF] at hD
            simp only at hD
            by_cases hb : 0 ≤ b2
            · have h := hD.1 hb
              subst h
              simp -implicitDefEqProofs [hl2, hl2', hb]
              refine AltR.r ⟨[9], by kernel_rfl, ?_⟩
              simp -implicitDefEqProofs
              rfl
            · have h := hD.2 hb
              subst h
              have hb' : (0 ≤ b2) = False := eq_false hb
              simp -implicitDefEqProofs [hl2, hl2', hb', hb, Addr.row]
        · have hQ : docQ t k1 b1 = ([], false, k1, b1) := by unfold docQ; rw [if_neg hq]
          rw [hQ] at hD
          simp only at hD
          by_cases hl1 : k1 < t.length
          · have hl1' : ((k1 : Int) < (t.length : Int)) = True := eq_true (by omega)
            have hc1 : ¬ t[k1] = 63 := fun h => hq (by rw [head_drop hl1, h])
            have f3 : ((t[k1].toNat : Int) = 63) = False := u8_int_ne 63 (by omega) hc1
            have f4 : ((t[k1].toNat : Int) == 63) = false := by simpa using f3
            simp -implicitDefEqProofs [hl1, hl1', f3, f4]
            have hl2' : ((k1 : Int) < (t.length : Int)) = True := eq_true (by omega)
            have hF : docF t k1 b1 = (stopW [] (t.drop (k1 + 1)), true, rowBadN [] (t.drop (k1 + 1)) (k1 + 1) b1) := by unfold docF; rw [if_pos hl1]
            rw [hF] at hD
            simp only at hD
            obtain ⟨j2, ej2⟩ : ∃ j, j = k1 + 1 := ⟨_, rfl⟩
            have wj2 : IntKind.i64.wrap ((k1 : Int) + 1) = (j2 : Int) := by rw [wrapS _ (by omega)]; omega
            rw [← ej2] at hD
            have hr3 := ref1_row t [] j2 b1 ht (by omega) hex_none
            obtain ⟨b3, eb3⟩ : ∃ b, b = rowBadN [] (t.drop j2) j2 b1 := ⟨_, rfl⟩
            obtain ⟨u3, eu3⟩ : ∃ u, u = stopW [] (t.drop j2) := ⟨_, rfl⟩
            rw [← eb3, ← eu3] at hr3 hD
            clear eb3 eu3
            simp only [rdR] at hr3
            simp -implicitDefEqProofs [hl1, hl2', wj2]
            refine ACallM.of hr3 ?_
            by_cases hb : 0 ≤ b3
            · have h := hD.1 hb
              subst h
              simp -implicitDefEqProofs [hb]
              refine AltR.r ⟨[9], by kernel_rfl, ?_⟩
              simp -implicitDefEqProofs
              rfl
            · have h := hD.2 hb
              subst h
              have hb' : (0 ≤ b3) = False := eq_false hb
              simp -implicitDefEqProofs [hb', hb, Addr.row]
          · have hl1' : ((k1 : Int) < (t.length : Int)) = False := eq_false (by omega)
            have hF : docF t k1 b1 = ([], false, b1) := by unfold docF; rw [if_neg hl1]
            rw [hF] at hD
            simp only at hD
            by_cases hb : 0 ≤ b1
            · have h := hD.1 hb
              subst h
              simp -implicitDefEqProofs [hl1, hl1', hb]
              refine AltR.r ⟨[9], by kernel_rfl, ?_⟩
              simp -implicitDefEqProofs
              rfl
            · have h := hD.2 hb
              subst h
              have hb' : (0 ≤ b1) = False := eq_false hb
              simp -implicitDefEqProofs [hl1, hl1', hb', hb, Addr.row]
      have hlt' : ((m : Int) < (t.length : Int)) = True := eq_true (by omega)
      have hbk := atByte_back t[m]
      have hbk2 : decide (atByte [47, 63, 35] t[m] < 0) = !(backC t[m]) := by
        rw [← hbk, Bool.eq_iff_iff]; simp
      rw [endB_drop hlt] at hX
      cases bb : backC t[m]
      · rw [bb] at hX hbk2
        simp only [if_true] at hX
        subst hX
        simp -implicitDefEqProofs [hv, hlt, hlt']
        refine ACallGS.of (fun _ => strings_IndexByte [47, 63, 35] t[m]) rfl ?_
        simp -implicitDefEqProofs [hbk2]
        refine AltR.r ⟨[9], by kernel_rfl, ?_⟩
        simp -implicitDefEqProofs
        rfl
      rw [bb] at hX hbk2
      simp only [Bool.true_eq_false, if_false] at hX
      have hD := rest_doc (by omega) hX
      simp -implicitDefEqProofs [hv, hlt, hlt']
      refine ACallGS.of (fun _ => strings_IndexByte [47, 63, 35] t[m]) rfl ?_
      have he : m ≤ t.length := by omega
      clear hX
      have hr1 := ref1_row t [63, 35] m (-1) ht he hex_63_35
      have hu1 := stopW_len [63, 35] (t.drop m)
      rw [List.length_drop] at hu1
      unfold docR at hD
      simp only at hD
      obtain ⟨b1, eb1⟩ : ∃ b, b = rowBadN [63, 35] (t.drop m) m (-1) := ⟨_, rfl⟩
      obtain ⟨u1, eu1⟩ : ∃ u, u = stopW [63, 35] (t.drop m) := ⟨_, rfl⟩
      obtain ⟨k1, ek1⟩ : ∃ k, k = m + u1.length := ⟨_, rfl⟩
      rw [← eb1, ← eu1, ← ek1] at hr1
      rw [← eb1, ← eu1, ← ek1] at hD
      rw [← eu1] at hu1
      clear eb1 eu1
      simp only [rdR] at hr1
      simp -implicitDefEqProofs [hbk2]
      refine ACallM.of hr1 ?_
      by_cases hq : (t.drop k1).head? = some 63
      · have hQ : docQ t k1 b1 = (stopW [35] (t.drop (k1 + 1)), true, k1 + 1 + (stopW [35] (t.drop (k1 + 1))).length, rowBadN [35] (t.drop (k1 + 1)) (k1 + 1) b1) := by unfold docQ; rw [if_pos hq]
        rw [hQ] at hD
        simp only at hD
        have hl1 := head_lt hq
        have hl1' : ((k1 : Int) < (t.length : Int)) = True := eq_true (by omega)
        have hc1 : t[k1] = 63 := by have := head_drop hl1; rw [hq] at this; exact (Option.some.inj this).symm
        have f3 : ((t[k1].toNat : Int) = 63) = True := eq_true ((u8_int 63 (by omega)).2 hc1)
        have f4 : ((t[k1].toNat : Int) == 63) = true := by simpa using f3
        obtain ⟨j1, ej1⟩ : ∃ j, j = k1 + 1 := ⟨_, rfl⟩
        have wj1 : IntKind.i64.wrap ((k1 : Int) + 1) = (j1 : Int) := by rw [wrapS _ (by omega)]; omega
        rw [← ej1] at hD
        have hr2 := ref1_row t [35] j1 b1 ht (by omega) hex_35
        have hu2 := stopW_len [35] (t.drop j1)
        rw [List.length_drop] at hu2
        obtain ⟨b2, eb2⟩ : ∃ b, b = rowBadN [35] (t.drop j1) j1 b1 := ⟨_, rfl⟩
        obtain ⟨u2, eu2⟩ : ∃ u, u = stopW [35] (t.drop j1) := ⟨_, rfl⟩
        obtain ⟨k2, ek2⟩ : ∃ k, k = j1 + u2.length := ⟨_, rfl⟩
        rw [← eb2, ← eu2, ← ek2] at hr2
        rw [← eb2, ← eu2, ← ek2] at hD
        rw [← eu2] at hu2
        clear eb2 eu2
        simp only [rdR] at hr2
        simp -implicitDefEqProofs [hl1, hl1', f3, f4, wj1]
        refine ACallM.of hr2 ?_
        by_cases hl2 : k2 < t.length
        · have hl2' : ((k2 : Int) < (t.length : Int)) = True := eq_true (by omega)
          have hF : docF t k2 b2 = (stopW [] (t.drop (k2 + 1)), true, rowBadN [] (t.drop (k2 + 1)) (k2 + 1) b2) := by unfold docF; rw [if_pos hl2]
          rw [hF] at hD
          simp only at hD
          obtain ⟨j2, ej2⟩ : ∃ j, j = k2 + 1 := ⟨_, rfl⟩
          have wj2 : IntKind.i64.wrap ((k2 : Int) + 1) = (j2 : Int) := by rw [wrapS _ (by omega)]; omega
          rw [← ej2] at hD
          have hr3 := ref1_row t [] j2 b2 ht (by omega) hex_none
          obtain ⟨b3, eb3⟩ : ∃ b, b = rowBadN [] (t.drop j2) j2 b2 := ⟨_, rfl⟩
          obtain ⟨u3, eu3⟩ : ∃ u, u = stopW [] (t.drop j2) := ⟨_, rfl⟩
          rw [← eb3, ← eu3] at hr3 hD
          clear eb3 eu3
          simp only [rdR] at hr3
          simp -implicitDefEqProofs [hl2, hl2', wj2]
          refine ACallM.of hr3 ?_
          by_cases hb : 0 ≤ b3
          · have h := hD.1 hb
            subst h
            simp -implicitDefEqProofs [hb]
            refine AltR.r ⟨[9], by kernel_rfl, ?_⟩
            simp -implicitDefEqProofs
            rfl
          · have h := hD.2 hb
            subst h
            have hb' : (0 ≤ b3) = False := eq_false hb
            simp -implicitDefEqProofs [hb', hb, Addr.row]
        · have hl2' : ((k2 : Int) < (t.length : Int)) = False := eq_false (by omega)
          have hF : docF t k2 b2 = ([], false, b2) := by unfold docF; rw [if_neg hl2]
          rw [hF] at hD
          simp only at hD
          by_cases hb : 0 ≤ b2
          · have h := hD.1 hb
            subst h
            simp -implicitDefEqProofs [hl2, hl2', hb]
            refine AltR.r ⟨[9], by kernel_rfl, ?_⟩
            simp -implicitDefEqProofs
            rfl
          · have h := hD.2 hb
            subst h
            have hb' : (0 ≤ b2) = False := eq_false hb
            simp -implicitDefEqProofs [hl2, hl2', hb', hb, Addr.row]
      · have hQ : docQ t k1 b1 = ([], false, k1, b1) := by unfold docQ; rw [if_neg hq]
        rw [hQ] at hD
        simp only at hD
        by_cases hl1 : k1 < t.length
        · have hl1' : ((k1 : Int) < (t.length : Int)) = True := eq_true (by omega)
          have hc1 : ¬ t[k1] = 63 := fun h => hq (by rw [head_drop hl1, h])
          have f3 : ((t[k1].toNat : Int) = 63) = False := u8_int_ne 63 (by omega) hc1
          have f4 : ((t[k1].toNat : Int) == 63) = false := by simpa using f3
          simp -implicitDefEqProofs [hl1, hl1', f3, f4]
          have hl2' : ((k1 : Int) < (t.length : Int)) = True := eq_true (by omega)
          have hF : docF t k1 b1 = (stopW [] (t.drop (k1 + 1)), true, rowBadN [] (t.drop (k1 + 1)) (k1 + 1) b1) := by unfold docF; rw [if_pos hl1]
          rw [hF] at hD
          simp only at hD
          obtain ⟨j2, ej2⟩ : ∃ j, j = k1 + 1 := ⟨_, rfl⟩
          have wj2 : IntKind.i64.wrap ((k1 : Int) + 1) = (j2 : Int) := by rw [wrapS _ (by omega)]; omega
          rw [← ej2] at hD
          have hr3 := ref1_row t [] j2 b1 ht (by omega) hex_none
          obtain ⟨b3, eb3⟩ : ∃ b, b = rowBadN [] (t.drop j2) j2 b1 := ⟨_, rfl⟩
          obtain ⟨u3, eu3⟩ : ∃ u, u = stopW [] (t.drop j2) := ⟨_, rfl⟩
          rw [← eb3, ← eu3] at hr3 hD
          clear eb3 eu3
          simp only [rdR] at hr3
          simp -implicitDefEqProofs [hl1, hl2', wj2]
          refine ACallM.of hr3 ?_
          by_cases hb : 0 ≤ b3
          · have h := hD.1 hb
            subst h
            simp -implicitDefEqProofs [hb]
            refine AltR.r ⟨[9], by kernel_rfl, ?_⟩
            simp -implicitDefEqProofs
            rfl
          · have h := hD.2 hb
            subst h
            have hb' : (0 ≤ b3) = False := eq_false hb
            simp -implicitDefEqProofs [hb', hb, Addr.row]
        · have hl1' : ((k1 : Int) < (t.length : Int)) = False := eq_false (by omega)
          have hF : docF t k1 b1 = ([], false, b1) := by unfold docF; rw [if_neg hl1]
          rw [hF] at hD
          simp only at hD
          by_cases hb : 0 ≤ b1
          · have h := hD.1 hb
            subst h
            simp -implicitDefEqProofs [hl1, hl1', hb]
            refine AltR.r ⟨[9], by kernel_rfl, ?_⟩
            simp -implicitDefEqProofs
            rfl
          · have h := hD.2 hb
            subst h
            have hb' : (0 ≤ b1) = False := eq_false hb
            simp -implicitDefEqProofs [hl1, hl1', hb', hb, Addr.row]
end Go.Proofs.YtklnopamfncfgaaGreatDoor
namespace Go.Proofs.YtklnopamfncfgaaGreatDoor
open Go
set_option maxRecDepth 100000
end Go.Proofs.YtklnopamfncfgaaGreatDoor
namespace Go.Proofs.YtklnopamfncfgaaGreatDoor
open Go Go.Ab
set_option linter.unusedSectionVars false
variable [Amb] [HasPow10 Tryz.prog]
set_option maxRecDepth 100000
set_option maxHeartbeats 4000000
end Go.Proofs.YtklnopamfncfgaaGreatDoor
namespace Go.Proofs.YtklnopamfncfgaaGreatDoor
open Go Go.Ab
set_option linter.unusedSectionVars false
variable [Amb] [HasPow10 Tryz.prog]
set_option maxRecDepth 100000
set_option maxHeartbeats 4000000
structure DateOk (t : Int) : Prop where
  y : 1970 ≤ yearOf (t / 86400) ∧ yearOf (t / 86400) ≤ 9999
  m : 1 ≤ monthOf (t / 86400) ∧ monthOf (t / 86400) ≤ 12
  d : 1 ≤ dayOf (t / 86400) ∧ dayOf (t / 86400) ≤ 31
end Go.Proofs.YtklnopamfncfgaaGreatDoor
namespace Go.Proofs.YtklnopamfncfgaaGreatDoor
open Go Go.Ab
set_option linter.unusedSectionVars false
variable [Amb] [HasPow10 Tryz.prog]
set_option maxRecDepth 100000
set_option maxHeartbeats 4000000
end Go.Proofs.YtklnopamfncfgaaGreatDoor
namespace Go.Proofs.YtklnopamfncfgaaGreatDoor
open Go Go.Ab
set_option linter.unusedSectionVars false
variable [Amb] [HasPow10 Tryz.prog]
set_option maxRecDepth 100000
set_option maxHeartbeats 4000000
end Go.Proofs.YtklnopamfncfgaaGreatDoor
namespace Go.Proofs.YtklnopamfncfgaaGreatDoor
open Go Go.Ab
set_option linter.unusedSectionVars false
variable [Amb] [HasPow10 Tryz.prog]
set_option maxRecDepth 100000
set_option maxHeartbeats 4000000
end Go.Proofs.YtklnopamfncfgaaGreatDoor
namespace Go.Proofs.YtklnopamfncfgaaGreatDoor
open Go Go.Ab
set_option linter.unusedSectionVars false
variable [Amb] [HasPow10 Tryz.prog]
set_option maxRecDepth 100000
set_option maxHeartbeats 4000000
theorem ref1_Read (t : List UInt8) : ACalls Tryz.prog 34 [.one (.str t)] (.tup [.agg (readAR t).1.row, .one (.int .i64 (readAR t).2.1), .one (.int .i64 (readAR t).2.2)]) := by
  obtain ⟨X, eX⟩ : ∃ X, X = readAR t := ⟨_, rfl⟩
  rw [← eX]
  unfold readAR at eX
  refine ACalls.of mixed (fn := Tryz.f34) (by kernel_rfl) (by kernel_rfl) rfl (by kernel_rfl) (by simp [Tryz.f34]) (fun hok => ?_)
  by_cases hl : 2000 < t.length
  · rw [if_pos hl] at eX
    have hl' : (2000 < (t.length : Int)) = True := eq_true (by omega)
    subst eX
    simp -implicitDefEqProofs [hl, hl', noAddr, Addr.row]
  rw [if_neg hl] at eX
  have hl' : (2000 < (t.length : Int)) = False := eq_false (by omega)
  have hr := ref1_read t (by omega)
  unfold readD at hr
  cases h : readA t with
  | error k =>
    rw [h] at hr eX
    have k0 : (0 ≤ (k : Int)) = True := eq_true (by omega)
    subst eX
    simp only [noAddr, Addr.row] at hr ⊢
    simp -implicitDefEqProofs [hl, hl']
    refine ACallK.of hr ?_
    simp -implicitDefEqProofs [k0]
  | ok a =>
    rw [h] at hr eX
    subst eX
    obtain ⟨sc, ho, po, pa, qu, hq, fr, hf⟩ := a
    simp only [Addr.row] at hr ⊢
    simp -implicitDefEqProofs [hl, hl']
    refine ACallK.of hr ?_
    simp -implicitDefEqProofs
theorem ref2_within (n lo hi : Int) : ACalls Tryz.prog 140 [.one (.int .i64 n), .one (.int .i64 lo), .one (.int .i64 hi)] (.x (.one (.bool (inB lo hi n)))) := by
  refine ACalls.of mixed (fn := Tryz.f140) (by kernel_rfl) (by kernel_rfl) rfl (by kernel_rfl) (by simp [Tryz.f140]) (fun hok => ?_)
  simp -implicitDefEqProofs [inB]
end Go.Proofs.YtklnopamfncfgaaGreatDoor
namespace Go.Proofs.YtklnopamfncfgaaGreatDoor
open Go Go.Ab
set_option linter.unusedSectionVars false
variable [Amb] [HasPow10 Tryz.prog]
set_option maxRecDepth 100000
set_option maxHeartbeats 4000000
def tokCs : List UInt8 := [33, 35, 36, 37, 38, 39, 42, 43, 45, 46, 94, 95, 124, 126]
def tokC (c : UInt8) : Bool := (decide (97 ≤ c.toNat) && decide (c.toNat ≤ 122)) || (decide (65 ≤ c.toNat) && decide (c.toNat ≤ 90)) || (decide (48 ≤ c.toNat) && decide (c.toNat ≤ 57)) || tokCs.contains c
theorem tokC_in {c : UInt8} (h : (97 ≤ c.toNat ∧ c.toNat ≤ 122) ∨ (65 ≤ c.toNat ∧ c.toNat ≤ 90) ∨ (48 ≤ c.toNat ∧ c.toNat ≤ 57)) : tokC c = true := by
  unfold tokC
  rcases h with h | h | h <;> simp [h.1, h.2]
theorem tokC_cs {c : UInt8} (h : tokCs.contains c = true) : tokC c = true := by unfold tokC; rw [h, Bool.or_true]
theorem tokC_out {c : UInt8} (h : ¬ ((97 ≤ c.toNat ∧ c.toNat ≤ 122) ∨ (65 ≤ c.toNat ∧ c.toNat ≤ 90) ∨ (48 ≤ c.toNat ∧ c.toNat ≤ 57))) (hc : tokCs.contains c = false) : tokC c = false := by
  unfold tokC
  rw [hc]
  cases h1 : decide (97 ≤ c.toNat) <;> cases h2 : decide (c.toNat ≤ 122) <;> cases h3 : decide (65 ≤ c.toNat) <;> cases h4 : decide (c.toNat ≤ 90) <;> cases h5 : decide (48 ≤ c.toNat) <;> cases h6 : decide (c.toNat ≤ 57) <;>
    simp only [decide_eq_true_eq, decide_eq_false_iff_not] at h1 h2 h3 h4 h5 h6 <;> first | rfl | (exfalso; omega)
def tokB (s : List UInt8) : Bool := inB 1 40 s.length && s.all tokC
theorem message_isToken (s : List UInt8) : ACalls Tryz.prog 218 [.one (.str s)] (.x (.one (.bool (tokB s)))) := by
  obtain ⟨B, eB⟩ : ∃ B, B = tokB s := ⟨_, rfl⟩
  rw [← eB]
  have hbad : ∀ i (h : i < s.length), tokC s[i] = false → B = false := fun i h hc => by rw [eB]; unfold tokB; rw [all_bad h hc, Bool.and_false]
  refine ACalls.of mixed (fn := Tryz.f218) (by kernel_rfl) (by kernel_rfl) rfl (by kernel_rfl) (by simp [Tryz.f218]) (fun hok => ?_)
  cases hin : inB 1 40 s.length
  · have hB : B = false := by rw [eB]; unfold tokB; rw [hin, Bool.false_and]
    by_cases h1 : s.length < 1
    · have h1' : ((s.length : Int) < 1) = True := eq_true (by omega)
      simp -implicitDefEqProofs [h1', hB]
    · have h1' : ((s.length : Int) < 1) = False := eq_false (by omega)
      have h2 : (40 < (s.length : Int)) = True := eq_true (by simp [inB] at hin; omega)
      simp -implicitDefEqProofs [h1', h2, hB]
  have h1 : ((s.length : Int) < 1) = False := by simp [inB] at hin; exact eq_false (by omega)
  have h2 : (40 < (s.length : Int)) = False := by simp [inB] at hin; exact eq_false (by omega)
  simp -implicitDefEqProofs [h1, h2]
  refine ALoopS.of Nat (fun i => [(0, .x (.one (.str s))), (14, .x (.one (.int .i64 s.length))), (15, .x (.one (.int .i64 i)))]) (Upto tokC s) (fun i => s.length - i) 0 Upto.zero ?_ ?_
  · simp
  intro i hi
  have hle := hi.1
  by_cases hlt : i < s.length
  · have hlt' : ((i : Int) < (s.length : Int)) = True := eq_true (by omega)
    have hwr : IntKind.i64.wrap ((i : Int) + 1) = (i : Int) + 1 := wrapS _ (by simp [inB] at hin; omega)
    have h255 := s[i].toNat_lt
    have hcl : (s[i].toNat ≤ 47) ∨ (48 ≤ s[i].toNat ∧ s[i].toNat ≤ 57) ∨ (58 ≤ s[i].toNat ∧ s[i].toNat ≤ 64) ∨ (65 ≤ s[i].toNat ∧ s[i].toNat ≤ 90) ∨ (91 ≤ s[i].toNat ∧ s[i].toNat ≤ 96) ∨ (97 ≤ s[i].toNat ∧ s[i].toNat ≤ 122) ∨ (123 ≤ s[i].toNat) := by omega
    rcases hcl with hcl | hcl | hcl | hcl | hcl | hcl | hcl
    · -- 0..47
      have p0 : (97 ≤ (s[i].toNat : Int)) = False := eq_false (by omega)
      have p1 : ((s[i].toNat : Int) ≤ 122) = True := eq_true (by omega)
      have p2 : (65 ≤ (s[i].toNat : Int)) = False := eq_false (by omega)
      have p3 : ((s[i].toNat : Int) ≤ 90) = True := eq_true (by omega)
      have p4 : (48 ≤ (s[i].toNat : Int)) = False := eq_false (by omega)
      have p5 : ((s[i].toNat : Int) ≤ 57) = True := eq_true (by omega)
      simp -implicitDefEqProofs [hlt, hlt', p0, p1, p2, p3, p4, p5]
      refine ACallGS.of (fun _ => strings_IndexByte [33, 35, 36, 37, 38, 39, 42, 43, 45, 46, 94, 95, 124, 126] s[i]) rfl ?_
      cases hc : tokCs.contains s[i]
      · have g : atByte [33, 35, 36, 37, 38, 39, 42, 43, 45, 46, 94, 95, 124, 126] s[i] = -1 := atByte_no hc
        have hB := hbad i hlt (tokC_out (by omega) hc)
        simp -implicitDefEqProofs [g, hB]
      · have g : (0 ≤ atByte [33, 35, 36, 37, 38, 39, 42, 43, 45, 46, 94, 95, 124, 126] s[i]) = True := eq_true (atByte_in hc)
        have g2 : (atByte [33, 35, 36, 37, 38, 39, 42, 43, 45, 46, 94, 95, 124, 126] s[i] < 0) = False := eq_false (by have h0 : 0 ≤ atByte [33, 35, 36, 37, 38, 39, 42, 43, 45, 46, 94, 95, 124, 126] s[i] := atByte_in hc; omega)
        simp -implicitDefEqProofs [g, g2, hwr]
        exact Again.of (i + 1) (hi.step hlt (tokC_cs hc)) (by omega) (by simp [hwr])
    · -- 48..57
      have p0 : (97 ≤ (s[i].toNat : Int)) = False := eq_false (by omega)
      have p1 : ((s[i].toNat : Int) ≤ 122) = True := eq_true (by omega)
      have p2 : (65 ≤ (s[i].toNat : Int)) = False := eq_false (by omega)
      have p3 : ((s[i].toNat : Int) ≤ 90) = True := eq_true (by omega)
      have p4 : (48 ≤ (s[i].toNat : Int)) = True := eq_true (by omega)
      have p5 : ((s[i].toNat : Int) ≤ 57) = True := eq_true (by omega)
      simp -implicitDefEqProofs [hlt, hlt', p0, p1, p2, p3, p4, p5]
      refine ACallGS.of (fun h => by cases h) (r := .x (.one (.int .i64 0))) rfl ?_
      simp -implicitDefEqProofs [hwr, p0, p1, p2, p3, p4, p5]
      exact Again.of (i + 1) (hi.step hlt (tokC_in (by omega))) (by omega) (by simp [hwr])
    · -- 58..64
      have p0 : (97 ≤ (s[i].toNat : Int)) = False := eq_false (by omega)
      have p1 : ((s[i].toNat : Int) ≤ 122) = True := eq_true (by omega)
      have p2 : (65 ≤ (s[i].toNat : Int)) = False := eq_false (by omega)
      have p3 : ((s[i].toNat : Int) ≤ 90) = True := eq_true (by omega)
      have p4 : (48 ≤ (s[i].toNat : Int)) = True := eq_true (by omega)
      have p5 : ((s[i].toNat : Int) ≤ 57) = False := eq_false (by omega)
      simp -implicitDefEqProofs [hlt, hlt', p0, p1, p2, p3, p4, p5]
      refine ACallGS.of (fun _ => strings_IndexByte [33, 35, 36, 37, 38, 39, 42, 43, 45, 46, 94, 95, 124, 126] s[i]) rfl ?_
      cases hc : tokCs.contains s[i]
      · have g : atByte [33, 35, 36, 37, 38, 39, 42, 43, 45, 46, 94, 95, 124, 126] s[i] = -1 := atByte_no hc
        have hB := hbad i hlt (tokC_out (by omega) hc)
        simp -implicitDefEqProofs [g, hB]
      · have g : (0 ≤ atByte [33, 35, 36, 37, 38, 39, 42, 43, 45, 46, 94, 95, 124, 126] s[i]) = True := eq_true (atByte_in hc)
        have g2 : (atByte [33, 35, 36, 37, 38, 39, 42, 43, 45, 46, 94, 95, 124, 126] s[i] < 0) = False := eq_false (by have h0 : 0 ≤ atByte [33, 35, 36, 37, 38, 39, 42, 43, 45, 46, 94, 95, 124, 126] s[i] := atByte_in hc; omega)
        simp -implicitDefEqProofs [g, g2, hwr]
        exact Again.of (i + 1) (hi.step hlt (tokC_cs hc)) (by omega) (by simp [hwr])
    · -- 65..90
      have p0 : (97 ≤ (s[i].toNat : Int)) = False := eq_false (by omega)
      have p1 : ((s[i].toNat : Int) ≤ 122) = True := eq_true (by omega)
      have p2 : (65 ≤ (s[i].toNat : Int)) = True := eq_true (by omega)
      have p3 : ((s[i].toNat : Int) ≤ 90) = True := eq_true (by omega)
      have p4 : (48 ≤ (s[i].toNat : Int)) = True := eq_true (by omega)
      have p5 : ((s[i].toNat : Int) ≤ 57) = False := eq_false (by omega)
      simp -implicitDefEqProofs [hlt, hlt', p0, p1, p2, p3, p4, p5]
      refine ACallGS.of (fun h => by cases h) (r := .x (.one (.int .i64 0))) rfl ?_
      simp -implicitDefEqProofs [hwr, p0, p1, p2, p3, p4, p5]
      exact Again.of (i + 1) (hi.step hlt (tokC_in (by omega))) (by omega) (by simp [hwr])
    · -- 91..96
      have p0 : (97 ≤ (s[i].toNat : Int)) = False := eq_false (by omega)
      have p1 : ((s[i].toNat : Int) ≤ 122) = True := eq_true (by omega)
      have p2 : (65 ≤ (s[i].toNat : Int)) = True := eq_true (by omega)
      have p3 : ((s[i].toNat : Int) ≤ 90) = False := eq_false (by omega)
      have p4 : (48 ≤ (s[i].toNat : Int)) = True := eq_true (by omega)
      have p5 : ((s[i].toNat : Int) ≤ 57) = False := eq_false (by omega)
      simp -implicitDefEqProofs [hlt, hlt', p0, p1, p2, p3, p4, p5]
      refine ACallGS.of (fun _ => strings_IndexByte [33, 35, 36, 37, 38, 39, 42, 43, 45, 46, 94, 95, 124, 126] s[i]) rfl ?_
      cases hc : tokCs.contains s[i]
      · have g : atByte [33, 35, 36, 37, 38, 39, 42, 43, 45, 46, 94, 95, 124, 126] s[i] = -1 := atByte_no hc
        have hB := hbad i hlt (tokC_out (by omega) hc)
        simp -implicitDefEqProofs [g, hB]
      · have g : (0 ≤ atByte [33, 35, 36, 37, 38, 39, 42, 43, 45, 46, 94, 95, 124, 126] s[i]) = True := eq_true (atByte_in hc)
        have g2 : (atByte [33, 35, 36, 37, 38, 39, 42, 43, 45, 46, 94, 95, 124, 126] s[i] < 0) = False := eq_false (by have h0 : 0 ≤ atByte [33, 35, 36, 37, 38, 39, 42, 43, 45, 46, 94, 95, 124, 126] s[i] := atByte_in hc; omega)
        simp -implicitDefEqProofs [g, g2, hwr]
        exact Again.of (i + 1) (hi.step hlt (tokC_cs hc)) (by omega) (by simp [hwr])
    · -- 97..122
      have p0 : (97 ≤ (s[i].toNat : Int)) = True := eq_true (by omega)
      have p1 : ((s[i].toNat : Int) ≤ 122) = True := eq_true (by omega)
      have p2 : (65 ≤ (s[i].toNat : Int)) = True := eq_true (by omega)
      have p3 : ((s[i].toNat : Int) ≤ 90) = False := eq_false (by omega)
      have p4 : (48 ≤ (s[i].toNat : Int)) = True := eq_true (by omega)
      have p5 : ((s[i].toNat : Int) ≤ 57) = False := eq_false (by omega)
      simp -implicitDefEqProofs [hlt, hlt', p0, p1, p2, p3, p4, p5]
      refine ACallGS.of (fun h => by cases h) (r := .x (.one (.int .i64 0))) rfl ?_
      simp -implicitDefEqProofs [hwr, p0, p1, p2, p3, p4, p5]
      exact Again.of (i + 1) (hi.step hlt (tokC_in (by omega))) (by omega) (by simp [hwr])
    · -- 123..255
      have p0 : (97 ≤ (s[i].toNat : Int)) = True := eq_true (by omega)
      have p1 : ((s[i].toNat : Int) ≤ 122) = False := eq_false (by omega)
      have p2 : (65 ≤ (s[i].toNat : Int)) = True := eq_true (by omega)
      have p3 : ((s[i].toNat : Int) ≤ 90) = False := eq_false (by omega)
      have p4 : (48 ≤ (s[i].toNat : Int)) = True := eq_true (by omega)
      have p5 : ((s[i].toNat : Int) ≤ 57) = False := eq_false (by omega)
      simp -implicitDefEqProofs [hlt, hlt', p0, p1, p2, p3, p4, p5]
      refine ACallGS.of (fun _ => strings_IndexByte [33, 35, 36, 37, 38, 39, 42, 43, 45, 46, 94, 95, 124, 126] s[i]) rfl ?_
      cases hc : tokCs.contains s[i]
      · have g : atByte [33, 35, 36, 37, 38, 39, 42, 43, 45, 46, 94, 95, 124, 126] s[i] = -1 := atByte_no hc
        have hB := hbad i hlt (tokC_out (by omega) hc)
        simp -implicitDefEqProofs [g, hB]
      · have g : (0 ≤ atByte [33, 35, 36, 37, 38, 39, 42, 43, 45, 46, 94, 95, 124, 126] s[i]) = True := eq_true (atByte_in hc)
        have g2 : (atByte [33, 35, 36, 37, 38, 39, 42, 43, 45, 46, 94, 95, 124, 126] s[i] < 0) = False := eq_false (by have h0 : 0 ≤ atByte [33, 35, 36, 37, 38, 39, 42, 43, 45, 46, 94, 95, 124, 126] s[i] := atByte_in hc; omega)
        simp -implicitDefEqProofs [g, g2, hwr]
        exact Again.of (i + 1) (hi.step hlt (tokC_cs hc)) (by omega) (by simp [hwr])
  · have hlt' : ((i : Int) < (s.length : Int)) = False := eq_false (by omega)
    have hB : B = true := by rw [eB]; unfold tokB; rw [hin, hi.done hlt]; rfl
    simp -implicitDefEqProofs [hlt', hB]
theorem ref2_IsToken (s : List UInt8) : ACalls Tryz.prog 220 [.one (.str s)] (.x (.one (.bool (tokB s)))) := by
  obtain ⟨B, eB⟩ : ∃ B, B = tokB s := ⟨_, rfl⟩
  rw [← eB]
  have hbad : ∀ i (h : i < s.length), tokC s[i] = false → B = false := fun i h hc => by rw [eB]; unfold tokB; rw [all_bad h hc, Bool.and_false]
  refine ACalls.of mixed (fn := Tryz.f220) (by kernel_rfl) (by kernel_rfl) rfl (by kernel_rfl) (by simp [Tryz.f220]) (fun hok => ?_)
  simp -implicitDefEqProofs
  refine ALoopS.of Nat (fun i => [(0, .x (.one (.str s))), (3, .x (.one (.int .i64 i)))]) (Upto tokC s) (fun i => s.length - i) 0 Upto.zero ?_ ?_
  · simp
  intro i hi
  have hle := hi.1
  by_cases hlt : i < s.length
  · have hlt' : ((i : Int) < (s.length : Int)) = True := eq_true (by omega)
    have hwr : IntKind.i64.wrap ((i : Int) + 1) = (i : Int) + 1 := wrapS _ (by have := hok; simp [XV.ok, CV.ok, maxLen] at this; omega)
    have h255 := s[i].toNat_lt
    have hcl : (s[i].toNat ≤ 47) ∨ (48 ≤ s[i].toNat ∧ s[i].toNat ≤ 57) ∨ (58 ≤ s[i].toNat ∧ s[i].toNat ≤ 64) ∨ (65 ≤ s[i].toNat ∧ s[i].toNat ≤ 90) ∨ (91 ≤ s[i].toNat ∧ s[i].toNat ≤ 96) ∨ (97 ≤ s[i].toNat ∧ s[i].toNat ≤ 122) ∨ (123 ≤ s[i].toNat) := by omega
    rcases hcl with hcl | hcl | hcl | hcl | hcl | hcl | hcl
    · -- 0..47
      have p0 : (97 ≤ (s[i].toNat : Int)) = False := eq_false (by omega)
      have p1 : ((s[i].toNat : Int) ≤ 122) = True := eq_true (by omega)
      have p2 : (65 ≤ (s[i].toNat : Int)) = False := eq_false (by omega)
      have p3 : ((s[i].toNat : Int) ≤ 90) = True := eq_true (by omega)
      have p4 : (48 ≤ (s[i].toNat : Int)) = False := eq_false (by omega)
      have p5 : ((s[i].toNat : Int) ≤ 57) = True := eq_true (by omega)
      simp -implicitDefEqProofs [hlt, hlt', p0, p1, p2, p3, p4, p5]
      refine ACallGS.of (fun _ => strings_IndexByte [33, 35, 36, 37, 38, 39, 42, 43, 45, 46, 94, 95, 124, 126] s[i]) rfl ?_
      cases hc : tokCs.contains s[i]
      · have g : atByte [33, 35, 36, 37, 38, 39, 42, 43, 45, 46, 94, 95, 124, 126] s[i] = -1 := atByte_no hc
        have hB := hbad i hlt (tokC_out (by omega) hc)
        simp -implicitDefEqProofs [g, hB]
      · have g : (0 ≤ atByte [33, 35, 36, 37, 38, 39, 42, 43, 45, 46, 94, 95, 124, 126] s[i]) = True := eq_true (atByte_in hc)
        have g2 : (atByte [33, 35, 36, 37, 38, 39, 42, 43, 45, 46, 94, 95, 124, 126] s[i] < 0) = False := eq_false (by have h0 : 0 ≤ atByte [33, 35, 36, 37, 38, 39, 42, 43, 45, 46, 94, 95, 124, 126] s[i] := atByte_in hc; omega)
        simp -implicitDefEqProofs [g, g2, hwr]
        exact Again.of (i + 1) (hi.step hlt (tokC_cs hc)) (by omega) (by simp [hwr])
    · -- 48..57
      have p0 : (97 ≤ (s[i].toNat : Int)) = False := eq_false (by omega)
      have p1 : ((s[i].toNat : Int) ≤ 122) = True := eq_true (by omega)
      have p2 : (65 ≤ (s[i].toNat : Int)) = False := eq_false (by omega)
      have p3 : ((s[i].toNat : Int) ≤ 90) = True := eq_true (by omega)
      have p4 : (48 ≤ (s[i].toNat : Int)) = True := eq_true (by omega)
      have p5 : ((s[i].toNat : Int) ≤ 57) = True := eq_true (by omega)
      simp -implicitDefEqProofs [hlt, hlt', p0, p1, p2, p3, p4, p5]
      refine ACallGS.of (fun h => by cases h) (r := .x (.one (.int .i64 0))) rfl ?_
      simp -implicitDefEqProofs [hwr, p0, p1, p2, p3, p4, p5]
      exact Again.of (i + 1) (hi.step hlt (tokC_in (by omega))) (by omega) (by simp [hwr])
    · -- 58..64
      have p0 : (97 ≤ (s[i].toNat : Int)) = False := eq_false (by omega)
      have p1 : ((s[i].toNat : Int) ≤ 122) = True := eq_true (by omega)
      have p2 : (65 ≤ (s[i].toNat : Int)) = False := eq_false (by omega)
      have p3 : ((s[i].toNat : Int) ≤ 90) = True := eq_true (by omega)
      have p4 : (48 ≤ (s[i].toNat : Int)) = True := eq_true (by omega)
      have p5 : ((s[i].toNat : Int) ≤ 57) = False := eq_false (by omega)
      simp -implicitDefEqProofs [hlt, hlt', p0, p1, p2, p3, p4, p5]
      refine ACallGS.of (fun _ => strings_IndexByte [33, 35, 36, 37, 38, 39, 42, 43, 45, 46, 94, 95, 124, 126] s[i]) rfl ?_
      cases hc : tokCs.contains s[i]
      · have g : atByte [33, 35, 36, 37, 38, 39, 42, 43, 45, 46, 94, 95, 124, 126] s[i] = -1 := atByte_no hc
        have hB := hbad i hlt (tokC_out (by omega) hc)
        simp -implicitDefEqProofs [g, hB]
      · have g : (0 ≤ atByte [33, 35, 36, 37, 38, 39, 42, 43, 45, 46, 94, 95, 124, 126] s[i]) = True := eq_true (atByte_in hc)
        have g2 : (atByte [33, 35, 36, 37, 38, 39, 42, 43, 45, 46, 94, 95, 124, 126] s[i] < 0) = False := eq_false (by have h0 : 0 ≤ atByte [33, 35, 36, 37, 38, 39, 42, 43, 45, 46, 94, 95, 124, 126] s[i] := atByte_in hc; omega)
        simp -implicitDefEqProofs [g, g2, hwr]
        exact Again.of (i + 1) (hi.step hlt (tokC_cs hc)) (by omega) (by simp [hwr])
    · -- 65..90
      have p0 : (97 ≤ (s[i].toNat : Int)) = False := eq_false (by omega)
      have p1 : ((s[i].toNat : Int) ≤ 122) = True := eq_true (by omega)
      have p2 : (65 ≤ (s[i].toNat : Int)) = True := eq_true (by omega)
      have p3 : ((s[i].toNat : Int) ≤ 90) = True := eq_true (by omega)
      have p4 : (48 ≤ (s[i].toNat : Int)) = True := eq_true (by omega)
      have p5 : ((s[i].toNat : Int) ≤ 57) = False := eq_false (by omega)
      simp -implicitDefEqProofs [hlt, hlt', p0, p1, p2, p3, p4, p5]
      refine ACallGS.of (fun h => by cases h) (r := .x (.one (.int .i64 0))) rfl ?_
      simp -implicitDefEqProofs [hwr, p0, p1, p2, p3, p4, p5]
      exact Again.of (i + 1) (hi.step hlt (tokC_in (by omega))) (by omega) (by simp [hwr])
    · -- 91..96
      have p0 : (97 ≤ (s[i].toNat : Int)) = False := eq_false (by omega)
      have p1 : ((s[i].toNat : Int) ≤ 122) = True := eq_true (by omega)
      have p2 : (65 ≤ (s[i].toNat : Int)) = True := eq_true (by omega)
      have p3 : ((s[i].toNat : Int) ≤ 90) = False := eq_false (by omega)
      have p4 : (48 ≤ (s[i].toNat : Int)) = True := eq_true (by omega)
      have p5 : ((s[i].toNat : Int) ≤ 57) = False := eq_false (by omega)
      simp -implicitDefEqProofs [hlt, hlt', p0, p1, p2, p3, p4, p5]
      refine ACallGS.of (fun _ => strings_IndexByte [33, 35, 36, 37, 38, 39, 42, 43, 45, 46, 94, 95, 124, 126] s[i]) rfl ?_
      cases hc : tokCs.contains s[i]
      · have g : atByte [33, 35, 36, 37, 38, 39, 42, 43, 45, 46, 94, 95, 124, 126] s[i] = -1 := atByte_no hc
        have hB := hbad i hlt (tokC_out (by omega) hc)
        simp -implicitDefEqProofs [g, hB]
      · have g : (0 ≤ atByte [33, 35, 36, 37, 38, 39, 42, 43, 45, 46, 94, 95, 124, 126] s[i]) = True := eq_true (atByte_in hc)
        have g2 : (atByte [33, 35, 36, 37, 38, 39, 42, 43, 45, 46, 94, 95, 124, 126] s[i] < 0) = False := eq_false (by have h0 : 0 ≤ atByte [33, 35, 36, 37, 38, 39, 42, 43, 45, 46, 94, 95, 124, 126] s[i] := atByte_in hc; omega)
        simp -implicitDefEqProofs [g, g2, hwr]
        exact Again.of (i + 1) (hi.step hlt (tokC_cs hc)) (by omega) (by simp [hwr])
    · -- 97..122
      have p0 : (97 ≤ (s[i].toNat : Int)) = True := eq_true (by omega)
      have p1 : ((s[i].toNat : Int) ≤ 122) = True := eq_true (by omega)
      have p2 : (65 ≤ (s[i].toNat : Int)) = True := eq_true (by omega)
      have p3 : ((s[i].toNat : Int) ≤ 90) = False := eq_false (by omega)
      have p4 : (48 ≤ (s[i].toNat : Int)) = True := eq_true (by omega)
      have p5 : ((s[i].toNat : Int) ≤ 57) = False := eq_false (by omega)
      simp -implicitDefEqProofs [hlt, hlt', p0, p1, p2, p3, p4, p5]
      refine ACallGS.of (fun h => by cases h) (r := .x (.one (.int .i64 0))) rfl ?_
      simp -implicitDefEqProofs [hwr, p0, p1, p2, p3, p4, p5]
      exact Again.of (i + 1) (hi.step hlt (tokC_in (by omega))) (by omega) (by simp [hwr])
    · -- 123..255
      have p0 : (97 ≤ (s[i].toNat : Int)) = True := eq_true (by omega)
      have p1 : ((s[i].toNat : Int) ≤ 122) = False := eq_false (by omega)
      have p2 : (65 ≤ (s[i].toNat : Int)) = True := eq_true (by omega)
      have p3 : ((s[i].toNat : Int) ≤ 90) = False := eq_false (by omega)
      have p4 : (48 ≤ (s[i].toNat : Int)) = True := eq_true (by omega)
      have p5 : ((s[i].toNat : Int) ≤ 57) = False := eq_false (by omega)
      simp -implicitDefEqProofs [hlt, hlt', p0, p1, p2, p3, p4, p5]
      refine ACallGS.of (fun _ => strings_IndexByte [33, 35, 36, 37, 38, 39, 42, 43, 45, 46, 94, 95, 124, 126] s[i]) rfl ?_
      cases hc : tokCs.contains s[i]
      · have g : atByte [33, 35, 36, 37, 38, 39, 42, 43, 45, 46, 94, 95, 124, 126] s[i] = -1 := atByte_no hc
        have hB := hbad i hlt (tokC_out (by omega) hc)
        simp -implicitDefEqProofs [g, hB]
      · have g : (0 ≤ atByte [33, 35, 36, 37, 38, 39, 42, 43, 45, 46, 94, 95, 124, 126] s[i]) = True := eq_true (atByte_in hc)
        have g2 : (atByte [33, 35, 36, 37, 38, 39, 42, 43, 45, 46, 94, 95, 124, 126] s[i] < 0) = False := eq_false (by have h0 : 0 ≤ atByte [33, 35, 36, 37, 38, 39, 42, 43, 45, 46, 94, 95, 124, 126] s[i] := atByte_in hc; omega)
        simp -implicitDefEqProofs [g, g2, hwr]
        exact Again.of (i + 1) (hi.step hlt (tokC_cs hc)) (by omega) (by simp [hwr])
  · have hlt' : ((i : Int) < (s.length : Int)) = False := eq_false (by omega)
    have hB : B = inB 1 40 s.length := by rw [eB]; unfold tokB; rw [hi.done hlt, Bool.and_true]
    simp -implicitDefEqProofs [hlt']
    refine ACallK.of (ref2_within s.length 1 40) ?_
    simp -implicitDefEqProofs [hB]
end Go.Proofs.YtklnopamfncfgaaGreatDoor
namespace Go.Proofs.YtklnopamfncfgaaGreatDoor
open Go Go.Ab
set_option linter.unusedSectionVars false
variable [Amb] [HasPow10 Tryz.prog]
set_option maxRecDepth 100000
set_option maxHeartbeats 4000000
def valC (c : UInt8) : Bool := (decide (32 ≤ c.toNat) && decide (c.toNat ≤ 126)) || decide (c.toNat = 9)
theorem valC_in {c : UInt8} (h : (32 ≤ c.toNat ∧ c.toNat ≤ 126) ∨ c.toNat = 9) : valC c = true := by
  unfold valC
  rcases h with h | h
  · simp [h.1, h.2]
  · simp [h]
theorem valC_out {c : UInt8} (h : ¬ ((32 ≤ c.toNat ∧ c.toNat ≤ 126) ∨ c.toNat = 9)) : valC c = false := by
  unfold valC
  cases h1 : decide (32 ≤ c.toNat) <;> cases h2 : decide (c.toNat ≤ 126) <;> cases h3 : decide (c.toNat = 9) <;>
    simp only [decide_eq_true_eq, decide_eq_false_iff_not] at h1 h2 h3 <;> first | rfl | (exfalso; omega)
def blankCs : List UInt8 := [32, 9]
def trimB (s : List UInt8) : List UInt8 := Lib.trimS s blankCs
def valB (s : List UInt8) : Bool := decide (s.length ≤ 1000) && (decide (trimB s = s) && s.all valC)
theorem message_trim (s : List UInt8) : ACalls Tryz.prog 248 [.one (.str s)] (.x (.one (.str (trimB s)))) := by
  have h := strings_Trim s blankCs (by decide) (by decide)
  unfold trimB
  unfold blankCs at *
  generalize Lib.trimS s [32, 9] = T at h ⊢
  refine ACalls.of mixed (fn := Tryz.f248) (by kernel_rfl) (by kernel_rfl) rfl (by kernel_rfl) (by simp [Tryz.f248]) (fun hok => ?_)
  simp -implicitDefEqProofs
  refine ACallK.of h ?_
  simp -implicitDefEqProofs
theorem message_isValue (s : List UInt8) : ACalls Tryz.prog 219 [.one (.str s)] (.x (.one (.bool (valB s)))) := by
  obtain ⟨B, eB⟩ : ∃ B, B = valB s := ⟨_, rfl⟩
  rw [← eB]
  have hbad : ∀ i (h : i < s.length), valC s[i] = false → B = false := fun i h hc => by rw [eB]; unfold valB; rw [all_bad h hc, Bool.and_false, Bool.and_false]
  have ht := message_trim s
  refine ACalls.of mixed (fn := Tryz.f219) (by kernel_rfl) (by kernel_rfl) rfl (by kernel_rfl) (by simp [Tryz.f219]) (fun hok => ?_)
  by_cases h1 : 1000 < s.length
  · have hB : B = false := by rw [eB]; unfold valB; rw [decide_eq_false (by omega), Bool.false_and]
    have h1' : (1000 < (s.length : Int)) = True := eq_true (by omega)
    simp -implicitDefEqProofs [h1', hB]
    refine ACallGS.of (fun h => by cases h) (r := .x (.one (.str []))) rfl ?_
    simp -implicitDefEqProofs [h1', hB]
  have h1' : (1000 < (s.length : Int)) = False := eq_false (by omega)
  simp -implicitDefEqProofs [h1']
  refine ACallGS.of (fun _ => ht) rfl ?_
  by_cases hT : trimB s = s
  rotate_left
  · have hB : B = false := by rw [eB]; unfold valB; rw [decide_eq_false hT, Bool.false_and, Bool.and_false]
    have b1 : (trimB s == s) = false := by simpa using hT
    have b2 : (trimB s != s) = true := by simpa using hT
    simp -implicitDefEqProofs [b1, b2, hB]
  have b1 : (trimB s == s) = true := by simpa using hT
  have b2 : (trimB s != s) = false := by simpa using hT
  simp -implicitDefEqProofs [b1, b2]
  refine ALoopS.of Nat (fun i => [(0, .x (.one (.str s))), (14, .x (.one (.int .i64 s.length))), (15, .x (.one (.int .i64 i)))]) (Upto valC s) (fun i => s.length - i) 0 Upto.zero ?_ ?_
  · simp
  intro i hi
  have hle := hi.1
  by_cases hlt : i < s.length
  · have hlt' : ((i : Int) < (s.length : Int)) = True := eq_true (by omega)
    have hwr : IntKind.i64.wrap ((i : Int) + 1) = (i : Int) + 1 := wrapS _ (by omega)
    have h255 := s[i].toNat_lt
    have hcl : (s[i].toNat ≤ 8) ∨ (9 ≤ s[i].toNat ∧ s[i].toNat ≤ 9) ∨ (10 ≤ s[i].toNat ∧ s[i].toNat ≤ 31) ∨ (32 ≤ s[i].toNat ∧ s[i].toNat ≤ 126) ∨ (127 ≤ s[i].toNat) := by omega
    rcases hcl with hcl | hcl | hcl | hcl | hcl
    · -- 0..8
      have p0 : ((s[i].toNat : Int) < 32) = True := eq_true (by omega)
      have p1 : (126 < (s[i].toNat : Int)) = False := eq_false (by omega)
      have p2 : ((s[i].toNat : Int) = 9) = False := eq_false (by omega)
      have q : ((s[i].toNat : Int) != 9) = true := by rw [bne_iff_ne]; omega
      have hB := hbad i hlt (valC_out (by omega))
      simp -implicitDefEqProofs [hlt, hlt', q, hB, p0, p1, p2]
    · -- 9..9
      have p0 : ((s[i].toNat : Int) < 32) = True := eq_true (by omega)
      have p1 : (126 < (s[i].toNat : Int)) = False := eq_false (by omega)
      have p2 : ((s[i].toNat : Int) = 9) = True := eq_true (by omega)
      have q : ((s[i].toNat : Int) != 9) = false := by rw [bne_eq_false_iff_eq]; omega
      simp -implicitDefEqProofs [hlt, hlt', q, hwr, p0, p1, p2]
      exact Again.of (i + 1) (hi.step hlt (valC_in (by omega))) (by omega) (by simp [hwr])
    · -- 10..31
      have p0 : ((s[i].toNat : Int) < 32) = True := eq_true (by omega)
      have p1 : (126 < (s[i].toNat : Int)) = False := eq_false (by omega)
      have p2 : ((s[i].toNat : Int) = 9) = False := eq_false (by omega)
      have q : ((s[i].toNat : Int) != 9) = true := by rw [bne_iff_ne]; omega
      have hB := hbad i hlt (valC_out (by omega))
      simp -implicitDefEqProofs [hlt, hlt', q, hB, p0, p1, p2]
    · -- 32..126
      have p0 : ((s[i].toNat : Int) < 32) = False := eq_false (by omega)
      have p1 : (126 < (s[i].toNat : Int)) = False := eq_false (by omega)
      have p2 : ((s[i].toNat : Int) = 9) = False := eq_false (by omega)
      have q : ((s[i].toNat : Int) != 9) = true := by rw [bne_iff_ne]; omega
      simp -implicitDefEqProofs [hlt, hlt', q, hwr, p0, p1, p2]
      exact Again.of (i + 1) (hi.step hlt (valC_in (by omega))) (by omega) (by simp [hwr])
    · -- 127..255
      have p0 : ((s[i].toNat : Int) < 32) = False := eq_false (by omega)
      have p1 : (126 < (s[i].toNat : Int)) = True := eq_true (by omega)
      have p2 : ((s[i].toNat : Int) = 9) = False := eq_false (by omega)
      have q : ((s[i].toNat : Int) != 9) = true := by rw [bne_iff_ne]; omega
      have hB := hbad i hlt (valC_out (by omega))
      simp -implicitDefEqProofs [hlt, hlt', q, hB, p0, p1, p2]
  · have hlt' : ((i : Int) < (s.length : Int)) = False := eq_false (by omega)
    have hB : B = true := by rw [eB]; unfold valB; rw [hi.done hlt, decide_eq_true hT, decide_eq_true (by omega)]; rfl
    simp -implicitDefEqProofs [hlt', hB]
theorem ref2_IsValue (s : List UInt8) : ACalls Tryz.prog 221 [.one (.str s)] (.x (.one (.bool (valB s)))) := by
  obtain ⟨B, eB⟩ : ∃ B, B = valB s := ⟨_, rfl⟩
  rw [← eB]
  have hbad : ∀ i (h : i < s.length), valC s[i] = false → B = false := fun i h hc => by rw [eB]; unfold valB; rw [all_bad h hc, Bool.and_false, Bool.and_false]
  have ht := strings_Trim s blankCs (by decide) (by decide)
  have hTd : trimB s = Lib.trimS s blankCs := rfl
  rw [← hTd] at ht
  unfold blankCs at ht
  refine ACalls.of mixed (fn := Tryz.f221) (by kernel_rfl) (by kernel_rfl) rfl (by kernel_rfl) (by simp [Tryz.f221]) (fun hok => ?_)
  simp -implicitDefEqProofs
  refine ALoopS.of Nat (fun i => [(0, .x (.one (.str s))), (3, .x (.one (.int .i64 i)))]) (Upto valC s) (fun i => s.length - i) 0 Upto.zero ?_ ?_
  · simp
  intro i hi
  have hle := hi.1
  by_cases hlt : i < s.length
  · have hlt' : ((i : Int) < (s.length : Int)) = True := eq_true (by omega)
    have hwr : IntKind.i64.wrap ((i : Int) + 1) = (i : Int) + 1 := wrapS _ (by have := hok; simp [XV.ok, CV.ok, maxLen] at this; omega)
    have h255 := s[i].toNat_lt
    have hcl : (s[i].toNat ≤ 8) ∨ (9 ≤ s[i].toNat ∧ s[i].toNat ≤ 9) ∨ (10 ≤ s[i].toNat ∧ s[i].toNat ≤ 31) ∨ (32 ≤ s[i].toNat ∧ s[i].toNat ≤ 126) ∨ (127 ≤ s[i].toNat) := by omega
    rcases hcl with hcl | hcl | hcl | hcl | hcl
    · -- 0..8
      have p0 : ((s[i].toNat : Int) < 32) = True := eq_true (by omega)
      have p1 : (126 < (s[i].toNat : Int)) = False := eq_false (by omega)
      have p2 : ((s[i].toNat : Int) = 9) = False := eq_false (by omega)
      have q : ((s[i].toNat : Int) != 9) = true := by rw [bne_iff_ne]; omega
      have hB := hbad i hlt (valC_out (by omega))
      simp -implicitDefEqProofs [hlt, hlt', q, hB, p0, p1, p2]
    · -- 9..9
      have p0 : ((s[i].toNat : Int) < 32) = True := eq_true (by omega)
      have p1 : (126 < (s[i].toNat : Int)) = False := eq_false (by omega)
      have p2 : ((s[i].toNat : Int) = 9) = True := eq_true (by omega)
      have q : ((s[i].toNat : Int) != 9) = false := by rw [bne_eq_false_iff_eq]; omega
      simp -implicitDefEqProofs [hlt, hlt', q, hwr, p0, p1, p2]
      exact Again.of (i + 1) (hi.step hlt (valC_in (by omega))) (by omega) (by simp [hwr])
    · -- 10..31
      have p0 : ((s[i].toNat : Int) < 32) = True := eq_true (by omega)
      have p1 : (126 < (s[i].toNat : Int)) = False := eq_false (by omega)
      have p2 : ((s[i].toNat : Int) = 9) = False := eq_false (by omega)
      have q : ((s[i].toNat : Int) != 9) = true := by rw [bne_iff_ne]; omega
      have hB := hbad i hlt (valC_out (by omega))
      simp -implicitDefEqProofs [hlt, hlt', q, hB, p0, p1, p2]
    · -- 32..126
      have p0 : ((s[i].toNat : Int) < 32) = False := eq_false (by omega)
      have p1 : (126 < (s[i].toNat : Int)) = False := eq_false (by omega)
      have p2 : ((s[i].toNat : Int) = 9) = False := eq_false (by omega)
      have q : ((s[i].toNat : Int) != 9) = true := by rw [bne_iff_ne]; omega
      simp -implicitDefEqProofs [hlt, hlt', q, hwr, p0, p1, p2]
      exact Again.of (i + 1) (hi.step hlt (valC_in (by omega))) (by omega) (by simp [hwr])
    · -- 127..255
      have p0 : ((s[i].toNat : Int) < 32) = False := eq_false (by omega)
      have p1 : (126 < (s[i].toNat : Int)) = True := eq_true (by omega)
      have p2 : ((s[i].toNat : Int) = 9) = False := eq_false (by omega)
      have q : ((s[i].toNat : Int) != 9) = true := by rw [bne_iff_ne]; omega
      have hB := hbad i hlt (valC_out (by omega))
      simp -implicitDefEqProofs [hlt, hlt', q, hB, p0, p1, p2]
  · have hlt' : ((i : Int) < (s.length : Int)) = False := eq_false (by omega)
    by_cases h1 : s.length ≤ 1000
    · have h1' : ((s.length : Int) ≤ 1000) = True := eq_true (by omega)
      have hB : B = decide (trimB s = s) := by rw [eB]; unfold valB; rw [hi.done hlt, decide_eq_true h1, Bool.and_true, Bool.true_and]
      simp -implicitDefEqProofs [hlt', h1']
      refine ACallGS.of (fun _ => ht) rfl ?_
      simp -implicitDefEqProofs
      rw [hB]
      by_cases hT : trimB s = s
      · simp [hT]
      · simp [hT]
    · have h1' : ((s.length : Int) ≤ 1000) = False := eq_false (by omega)
      have hB : B = false := by rw [eB]; unfold valB; rw [decide_eq_false h1, Bool.false_and]
      simp -implicitDefEqProofs [hlt', h1']
      refine ACallGS.of (fun h => by cases h) (r := .x (.one (.str []))) rfl ?_
      simp -implicitDefEqProofs [hB]
structure Head where
  name : List UInt8
  value : List UInt8
def Head.row (h : Head) : List CV := [.str h.name, .str h.value]
abbrev headsV (l : List Head) : XV := .one (.list 2 (l.map Head.row))
def headF (h : Head) : Int := if tokB h.name = false then 5 else if valB h.value = false then 3 else 0
def headsG : List Head → Int
  | [] => 0
  | h :: r => if headF h = 0 then headsG r else headF h
def headsF (l : List Head) : Int := if 100 < l.length then 2 else headsG l
theorem message_CheckHeads (l : List Head) : ACalls Tryz.prog 174 [headsV l] (.x (.one (.int .i64 (headsF l)))) := by
  obtain ⟨F, eF⟩ : ∃ F, F = headsF l := ⟨_, rfl⟩
  rw [← eF]
  unfold headsF at eF
  refine ACalls.of mixed (fn := Tryz.f174) (by kernel_rfl) (by kernel_rfl) rfl (by kernel_rfl) (by simp [Tryz.f174]) (fun hok => ?_)
  by_cases h1 : 100 < l.length
  · have h1' : (100 < (l.length : Int)) = True := eq_true (by omega)
    rw [if_pos h1] at eF
    subst eF
    simp -implicitDefEqProofs [h1']
  have h1' : (100 < (l.length : Int)) = False := eq_false (by omega)
  rw [if_neg h1] at eF
  simp -implicitDefEqProofs [h1']
  refine ALoopS.of Nat (fun i => [(8, .x (headsV l)), (9, .x (.one (.int .i64 l.length))), (10, .x (.one (.int .i64 i)))]) (fun i => i ≤ l.length ∧ F = headsG (l.drop i)) (fun i => l.length - i) 0 ⟨Nat.zero_le _, eF⟩ ?_ ?_
  · simp
  rintro i ⟨hi, hF⟩
  by_cases hlt : i < l.length
  · have hlt' : ((i : Int) < (l.length : Int)) = True := eq_true (by omega)
    have hwr : IntKind.i64.wrap ((i : Int) + 1) = (i : Int) + 1 := wrapS _ (by omega)
    rw [List.drop_eq_getElem_cons hlt, headsG] at hF
    have hrow : l[i].row = [.str l[i].name, .str l[i].value] := rfl
    have k1 := message_isToken l[i].name
    have k2 := message_isValue l[i].value
    have hf : headF l[i] = if tokB l[i].name = false then 5 else if valB l[i].value = false then 3 else 0 := rfl
    generalize tokB l[i].name = p at k1 hf
    generalize valB l[i].value = q at k2 hf
    simp -implicitDefEqProofs [hlt, hlt', hrow]
    refine ACallK.of k1 ?_
    cases p
    · rw [if_pos rfl] at hf
      rw [hf, if_neg (by decide)] at hF
      subst hF
      simp -implicitDefEqProofs
    · rw [if_neg (by decide)] at hf
      simp -implicitDefEqProofs [hlt, hlt', hrow]
      refine ACallK.of k2 ?_
      cases q
      · rw [if_pos rfl] at hf
        rw [hf, if_neg (by decide)] at hF
        subst hF
        simp -implicitDefEqProofs
      · rw [if_neg (by decide)] at hf
        rw [hf, if_pos rfl] at hF
        simp -implicitDefEqProofs [hwr]
        exact Again.of (i + 1) ⟨by omega, hF⟩ (by omega) (by simp [hwr])
  · have hlt' : ((i : Int) < (l.length : Int)) = False := eq_false (by omega)
    have hF : F = 0 := by rw [hF, List.drop_of_length_le (by omega)]; rfl
    subst hF
    simp -implicitDefEqProofs [hlt']
theorem ref2_CheckHeads (l : List Head) : ACalls Tryz.prog 176 [headsV l] (.x (.one (.int .i64 (headsF l)))) := by
  obtain ⟨F, eF⟩ : ∃ F, F = headsF l := ⟨_, rfl⟩
  rw [← eF]
  unfold headsF at eF
  refine ACalls.of mixed (fn := Tryz.f176) (by kernel_rfl) (by kernel_rfl) rfl (by kernel_rfl) (by simp [Tryz.f176]) (fun hok => ?_)
  by_cases h1 : 100 < l.length
  · have h1' : (100 < (l.length : Int)) = True := eq_true (by omega)
    rw [if_pos h1] at eF
    subst eF
    simp -implicitDefEqProofs [h1']
  have h1' : (100 < (l.length : Int)) = False := eq_false (by omega)
  rw [if_neg h1] at eF
  simp -implicitDefEqProofs [h1']
  refine ALoopS.of Nat (fun i => [(0, .x (headsV l)), (3, .x (.one (.int .i64 i)))]) (fun i => i ≤ l.length ∧ F = headsG (l.drop i)) (fun i => l.length - i) 0 ⟨Nat.zero_le _, eF⟩ ?_ ?_
  · simp
  rintro i ⟨hi, hF⟩
  by_cases hlt : i < l.length
  · have hlt' : ((i : Int) < (l.length : Int)) = True := eq_true (by omega)
    have hwr : IntKind.i64.wrap ((i : Int) + 1) = (i : Int) + 1 := wrapS _ (by omega)
    rw [List.drop_eq_getElem_cons hlt, headsG] at hF
    have hrow : l[i].row = [.str l[i].name, .str l[i].value] := rfl
    have k1 := ref2_IsToken l[i].name
    have k2 := ref2_IsValue l[i].value
    have hf : headF l[i] = if tokB l[i].name = false then 5 else if valB l[i].value = false then 3 else 0 := rfl
    generalize tokB l[i].name = p at k1 hf
    generalize valB l[i].value = q at k2 hf
    simp -implicitDefEqProofs [hlt, hlt', hrow]
    refine ACallK.of k1 ?_
    cases p
    · rw [if_pos rfl] at hf
      rw [hf, if_neg (by decide)] at hF
      subst hF
      simp -implicitDefEqProofs
    · rw [if_neg (by decide)] at hf
      simp -implicitDefEqProofs [hlt, hlt', hrow]
      refine ACallK.of k2 ?_
      cases q
      · rw [if_pos rfl] at hf
        rw [hf, if_neg (by decide)] at hF
        subst hF
        simp -implicitDefEqProofs
      · rw [if_neg (by decide)] at hf
        rw [hf, if_pos rfl] at hF
        simp -implicitDefEqProofs [hwr]
        exact Again.of (i + 1) ⟨by omega, hF⟩ (by omega) (by simp [hwr])
  · have hlt' : ((i : Int) < (l.length : Int)) = False := eq_false (by omega)
    have hF : F = 0 := by rw [hF, List.drop_of_length_le (by omega)]; rfl
    subst hF
    simp -implicitDefEqProofs [hlt']
end Go.Proofs.YtklnopamfncfgaaGreatDoor
namespace Go.Proofs.YtklnopamfncfgaaGreatDoor
open Go Go.Ab
set_option linter.unusedSectionVars false
variable [Amb] [HasPow10 Tryz.prog]
set_option maxRecDepth 100000
set_option maxHeartbeats 4000000
end Go.Proofs.YtklnopamfncfgaaGreatDoor
namespace Go.Proofs.YtklnopamfncfgaaGreatDoor
open Go Go.Ab
set_option linter.unusedSectionVars false
variable [Amb] [HasPow10 Tryz.prog]
set_option maxRecDepth 100000
set_option maxHeartbeats 4000000
end Go.Proofs.YtklnopamfncfgaaGreatDoor
namespace Go.Proofs.YtklnopamfncfgaaGreatDoor
open Go Go.Ab
set_option linter.unusedSectionVars false
variable [Amb]
set_option maxRecDepth 100000
set_option maxHeartbeats 4000000
end Go.Proofs.YtklnopamfncfgaaGreatDoor
namespace Go.Proofs.YtklnopamfncfgaaGreatDoor
open Go Go.Ab
set_option linter.unusedSectionVars false
variable [Amb] [HasPow10 Tryz.prog]
set_option maxRecDepth 100000
set_option maxHeartbeats 4000000
theorem writeL_len (a : Addr) : a.scheme.length + a.host.length + a.port.length + a.path.length + (queryL a).length + (fragL a).length ≤ (writeL a).length := by
  unfold writeL behindL portL
  simp only [List.length_append]
  split
  · rename_i h; rw [h]; simp; omega
  · simp; omega
theorem Fit_of {a : Addr} (h : addrF a = 0) : a.Fit := by
  obtain ⟨_, _, _, _, _, _, hq, hf, hl⟩ := addrF_ok h
  have := writeL_len a
  have q : a.query.length ≤ (queryL a).length := by
    unfold queryL
    by_cases e : a.query = []
    · rw [e]; simp
    · rw [hq e]; simp
  have f : a.frag.length ≤ (fragL a).length := by
    unfold fragL
    by_cases e : a.frag = []
    · rw [e]; simp
    · rw [hf e]; simp
  exact ⟨by omega, by omega, by omega, by omega, by omega, by omega⟩
end Go.Proofs.YtklnopamfncfgaaGreatDoor
namespace Go.Proofs.YtklnopamfncfgaaGreatDoor
open Go Go.Ab
set_option linter.unusedSectionVars false
variable [Amb] [HasPow10 Tryz.prog] [HasErrSyntax Tryz.prog]
set_option maxRecDepth 100000
set_option maxHeartbeats 4000000
theorem headsF_one (n s : List UInt8) (h : tokB n = true) : headsF [⟨n, s⟩] = if valB s = true then 0 else 3 := by
  have hf : headF ⟨n, s⟩ = if valB s = false then 3 else 0 := by unfold headF; rw [h, if_neg (by decide)]
  cases hv : valB s
  · rw [hv, if_pos rfl] at hf
    simp [headsF, headsG, hf]
  · rw [hv, if_neg (by decide)] at hf
    simp [headsF, headsG, hf]
theorem tok_x : tokB [120] = true := by decide
theorem tok_a : tokB [97] = true := by decide
theorem desk_isValue (s : List UInt8) : ACalls Tryz.prog 104 [.one (.str s)] (.x (.one (.bool (valB s)))) := by
  have k := message_CheckHeads [⟨[120], s⟩]
  rw [headsF_one _ _ tok_x] at k
  have e : headsV [⟨[120], s⟩] = .one (.list 2 [[.str [120], .str s]]) := rfl
  rw [e] at k
  refine ACalls.of mixed (fn := Tryz.f104) (by kernel_rfl) (by kernel_rfl) rfl (by kernel_rfl) (by simp [Tryz.f104]) (fun hok => ?_)
  simp -implicitDefEqProofs
  refine ACallK.of k ?_
  cases valB s
  · simp -implicitDefEqProofs
  · simp -implicitDefEqProofs
theorem ref12_isValue (s : List UInt8) : ACalls Tryz.prog 109 [.one (.str s)] (.x (.one (.bool (valB s)))) := by
  have k := ref2_CheckHeads [⟨[97], s⟩]
  rw [headsF_one _ _ tok_a] at k
  have e : headsV [⟨[97], s⟩] = .one (.list 2 [[.str [97], .str s]]) := rfl
  rw [e] at k
  refine ACalls.of mixed (fn := Tryz.f109) (by kernel_rfl) (by kernel_rfl) rfl (by kernel_rfl) (by simp [Tryz.f109]) (fun hok => ?_)
  simp -implicitDefEqProofs
  refine ACallK.of k ?_
  cases valB s
  · simp -implicitDefEqProofs
  · simp -implicitDefEqProofs
def bareB (n : Int) : Bool := decide (n < 200) || (n == 204 || n == 304)
theorem desk_bodiless (n : Int) : ACalls Tryz.prog 105 [.one (.int .i64 n)] (.x (.one (.bool (bareB n)))) := by
  refine ACalls.of mixed (fn := Tryz.f105) (by kernel_rfl) (by kernel_rfl) rfl (by kernel_rfl) (by simp [Tryz.f105]) (fun hok => ?_)
  unfold bareB
  by_cases h : n < 200
  · have h' : (n < 200) = True := eq_true h
    simp -implicitDefEqProofs [h']
  · have h' : (n < 200) = False := eq_false h
    cases h2 : n == 204
    · simp -implicitDefEqProofs [h', h2]
    · simp -implicitDefEqProofs [h', h2]
theorem ref12_isBare (n : Int) : ACalls Tryz.prog 110 [.one (.int .i64 n)] (.x (.one (.bool (bareB n)))) := by
  refine ACalls.of mixed (fn := Tryz.f110) (by kernel_rfl) (by kernel_rfl) rfl (by kernel_rfl) (by simp [Tryz.f110]) (fun hok => ?_)
  unfold bareB
  by_cases h : n < 200
  · have h' : (n < 200) = True := eq_true h
    simp -implicitDefEqProofs [h']
  · have h' : (n < 200) = False := eq_false h
    cases h2 : n == 204
    · simp -implicitDefEqProofs [h', h2]
    · simp -implicitDefEqProofs [h', h2]
theorem desk_within (x a b : Int) : ACalls Tryz.prog 57 [.one (.int .i64 x), .one (.int .i64 a), .one (.int .i64 b)] (.x (.one (.bool (inB a b x)))) := by
  refine ACalls.of mixed (fn := Tryz.f57) (by kernel_rfl) (by kernel_rfl) rfl (by kernel_rfl) (by simp [Tryz.f57]) (fun hok => ?_)
  simp -implicitDefEqProofs [inB]
theorem normalF_ok {a : Addr} (h : normalF a = 0) : addrF a = 0 ∧ addrF (normalA a) = 0 := by
  unfold normalF at h
  split at h
  · rename_i h1; exact absurd h h1
  · rename_i h1; exact ⟨by simpa using h1, h⟩
def normTextL (a : Addr) : List UInt8 := if normalF a = 0 then writeL (normalA a) else []
theorem desk_normalText (a : Addr) (h : a.Fit) : ACalls Tryz.prog 48 [.agg a.row] (.tup [.one (.str (normTextL a)), .one (.int .i64 (normalF a))]) := by
  have k1 := address_Normal a h
  have hL : normTextL a = if normalF a = 0 then writeL (normalA a) else [] := rfl
  have hR : normalR a = if normalF a = 0 then normalA a else noAddr := rfl
  have k2 : normalF a = 0 → ACalls Tryz.prog 24 [.agg (normalA a).row] (.tup [.one (.str (writeL (normalA a))), .one (.int .i64 0)]) := fun h => by
    have e := (normalF_ok h).2
    have k := address_Text (normalA a) (Fit_of e)
    unfold textL at k
    rw [e, if_pos rfl] at k
    exact k
  rw [hL]
  generalize normalF a = F at k1 hR k2 ⊢
  generalize normalR a = R at k1 hR
  by_cases h0 : F = 0
  · rw [if_pos h0] at hR
    have k3 := k2 h0
    clear k2
    subst hR
    subst h0
    generalize normalA a = X at k1 k3 ⊢
    generalize writeL X = T at k3 ⊢
    obtain ⟨sc, ho, po, pa, qu, hq, fr, hfr⟩ := a
    obtain ⟨xsc, xho, xpo, xpa, xqu, xhq, xfr, xhfr⟩ := X
    simp only [Addr.row] at k1 k3 ⊢
    rw [if_pos trivial]
    refine ACalls.of mixed (fn := Tryz.f48) (by kernel_rfl) (by kernel_rfl) rfl (by kernel_rfl) (by simp [Tryz.f48]) (fun hok => ?_)
    simp -implicitDefEqProofs
    refine ACallK.of k1 ?_
    simp -implicitDefEqProofs
    refine ACallK.of k3 ?_
    simp -implicitDefEqProofs
  · have hb : (F == 0) = false := by simpa using h0
    rw [if_neg h0]
    obtain ⟨sc, ho, po, pa, qu, hq, fr, hfr⟩ := a
    obtain ⟨xsc, xho, xpo, xpa, xqu, xhq, xfr, xhfr⟩ := R
    simp only [Addr.row] at k1 ⊢
    refine ACalls.of mixed (fn := Tryz.f48) (by kernel_rfl) (by kernel_rfl) rfl (by kernel_rfl) (by simp [Tryz.f48]) (fun hok => ?_)
    simp -implicitDefEqProofs
    refine ACallK.of k1 ?_
    simp -implicitDefEqProofs [h0, hb]
end Go.Proofs.YtklnopamfncfgaaGreatDoor
namespace Go.Proofs.YtklnopamfncfgaaGreatDoor
open Go Go.Ab
set_option linter.unusedSectionVars false
variable [Amb] [HasPow10 Tryz.prog] [HasErrSyntax Tryz.prog]
set_option maxRecDepth 100000
set_option maxHeartbeats 4000000
structure WPage where
  addr : List UInt8
  since : Int
  status : Int
  typ : List UInt8
  dest : List UInt8
  body : List UInt8
def byteRow (b : UInt8) : List CV := [.int .u8 b.toNat]
abbrev bytesL (l : List UInt8) : CV := .list 1 (l.map byteRow)
def WPage.row (p : WPage) : List CV := [.str p.addr, .int .i64 p.since, .int .i64 p.status, .str p.typ, .str p.dest, bytesL p.body]
abbrev pagesL (l : List WPage) : CV := .list 6 (l.map WPage.row)
def pageF (x : WPage) : Int :=
  if (readAR x.addr).2.2 ≠ 0 then 10 else if normTextL (readAR x.addr).1 ≠ x.addr then 3 else if momentB x.since = false ∨ inB 100 599 x.status = false then 1
  else if valB x.typ = false ∨ valB x.dest = false then 3 else if 195000 < x.body.length then 2 else if 0 < x.body.length ∧ bareB x.status = true then 3 else 0
theorem readAR_addr {t : List UInt8} (h : (readAR t).2.2 = 0) : addrF (readAR t).1 = 0 ∧ t ≠ [] := by
  obtain ⟨hl, hr⟩ := readAR_ok h
  refine ⟨(write_read hr).2 hl, fun e => ?_⟩
  subst e
  have : readA [] = .error 0 := by rfl
  rw [this] at hr; cases hr
theorem desk_checkPage (x : WPage) : ACalls Tryz.prog 52 [.agg x.row] (.x (.one (.int .i64 (pageF x)))) := by
  have k1 := address_Read x.addr
  have hok := fun h => readAR_addr (t := x.addr) h
  obtain ⟨F, eF⟩ : ∃ F, F = pageF x := ⟨_, rfl⟩
  rw [← eF]
  unfold pageF at eF
  generalize readAR x.addr = R at k1 eF hok
  obtain ⟨A, n, f⟩ := R
  simp only at k1 eF hok
  by_cases h0 : f = 0
  rotate_left
  · rw [if_pos h0] at eF
    subst eF
    have hb : (f == 0) = false := by simpa using h0
    clear hok
    obtain ⟨ad, si, st, ty, de, bo⟩ := x
    obtain ⟨xsc, xho, xpo, xpa, xqu, xhq, xfr, xhfr⟩ := A
    simp only [Addr.row, WPage.row] at k1 ⊢
    refine ACalls.of mixed (fn := Tryz.f52) (by kernel_rfl) (by kernel_rfl) rfl (by kernel_rfl) (by simp [Tryz.f52]) (fun hok => ?_)
    simp -implicitDefEqProofs
    refine ACallK.of k1 ?_
    simp -implicitDefEqProofs [h0, hb]
  rw [if_neg (fun h => h h0)] at eF
  have k2 := desk_normalText A (Fit_of (hok h0).1)
  clear hok
  generalize normTextL A = T at k2 eF
  generalize normalF A = G at k2
  have k3 := isMoment x.since
  have k4 := desk_within x.status 100 599
  have k5 := desk_isValue x.typ
  have k6 := desk_isValue x.dest
  have k7 := desk_bodiless x.status
  generalize momentB x.since = m at k3 eF
  generalize inB 100 599 x.status = w at k4 eF
  generalize valB x.typ = v at k5 eF
  generalize valB x.dest = u at k6 eF
  generalize bareB x.status = b at k7 eF
  obtain ⟨ad, si, st, ty, de, bo⟩ := x
  obtain ⟨xsc, xho, xpo, xpa, xqu, xhq, xfr, xhfr⟩ := A
  simp only [Addr.row, WPage.row] at *
  subst h0
  refine ACalls.of mixed (fn := Tryz.f52) (by kernel_rfl) (by kernel_rfl) rfl (by kernel_rfl) (by simp [Tryz.f52]) (fun hok => ?_)
  simp -implicitDefEqProofs
  refine ACallK.of k1 ?_
  simp -implicitDefEqProofs
  refine ACallK.of k2 ?_
  by_cases hT : T = ad
  rotate_left
  · rw [if_pos hT] at eF
    subst eF
    have hb : (T == ad) = false := by simpa using hT
    have hb2 : (T != ad) = true := by simpa using hT
    simp -implicitDefEqProofs [hb, hb2]
  rw [if_neg (fun h => h hT)] at eF
  have hb : (T == ad) = true := by simpa using hT
  have hb2 : (T != ad) = false := by simpa using hT
  simp -implicitDefEqProofs [hb, hb2]
  refine ACallK.of k3 ?_
  cases m
  · rw [if_pos (.inl rfl)] at eF
    subst eF
    simp -implicitDefEqProofs
    refine ACallGS.of (fun h => by cases h) (r := .x (.one (.bool true))) rfl ?_
    simp -implicitDefEqProofs
  simp -implicitDefEqProofs
  refine ACallGS.of (fun _ => k4) rfl ?_
  cases w
  · rw [if_pos (.inr rfl)] at eF
    subst eF
    simp -implicitDefEqProofs
  rw [if_neg (by simp)] at eF
  simp -implicitDefEqProofs
  refine ACallK.of k5 ?_
  cases v
  · rw [if_pos (.inl rfl)] at eF
    subst eF
    simp -implicitDefEqProofs
    refine ACallGS.of (fun h => by cases h) (r := .x (.one (.bool true))) rfl ?_
    simp -implicitDefEqProofs
  simp -implicitDefEqProofs
  refine ACallGS.of (fun _ => k6) rfl ?_
  cases u
  · rw [if_pos (.inr rfl)] at eF
    subst eF
    simp -implicitDefEqProofs
  rw [if_neg (by simp)] at eF
  by_cases hl : 195000 < bo.length
  · rw [if_pos hl] at eF
    subst eF
    have hl' : (195000 < (bo.length : Int)) = True := eq_true (by omega)
    simp -implicitDefEqProofs [hl']
  rw [if_neg hl] at eF
  have hl' : (195000 < (bo.length : Int)) = False := eq_false (by omega)
  by_cases hz : 0 < bo.length
  · have hz' : (0 < (bo.length : Int)) = True := eq_true (by omega)
    simp -implicitDefEqProofs [hl', hz', hz]
    refine ACallGS.of (fun _ => k7) rfl ?_
    cases b
    · rw [if_neg (by simp)] at eF
      subst eF
      simp -implicitDefEqProofs
    · rw [if_pos ⟨hz, rfl⟩] at eF
      subst eF
      simp -implicitDefEqProofs
  · have hz' : (0 < (bo.length : Int)) = False := eq_false (by omega)
    rw [if_neg (fun h => hz h.1)] at eF
    subst eF
    simp -implicitDefEqProofs [hl', hz', hz]
    refine ACallGS.of (fun h => by cases h) (r := .x (.one (.bool true))) rfl ?_
    simp -implicitDefEqProofs
end Go.Proofs.YtklnopamfncfgaaGreatDoor
namespace Go.Proofs.YtklnopamfncfgaaGreatDoor
open Go Go.Ab
set_option linter.unusedSectionVars false
variable [Amb] [HasPow10 Tryz.prog] [HasErrSyntax Tryz.prog]
set_option maxRecDepth 100000
set_option maxHeartbeats 4000000
def ordBad (p x : WPage) : Bool := ltB x.addr p.addr || (x.addr == p.addr && decide (x.since ≤ p.since))
def badO : Option WPage → WPage → Bool
  | none, _ => false
  | some q, x => ordBad q x
def pagesG : Option WPage → List WPage → Int
  | _, [] => 0
  | p, x :: r => if pageF x ≠ 0 then pageF x else if badO p x = true then 8 else pagesG (some x) r
def lastO {α : Type} (l : List α) : Nat → Option α
  | 0 => none
  | i + 1 => l[i]?
structure Took where
  host : List UInt8
  secs : Int
def Took.row (t : Took) : List CV := [.str t.host, .int .i64 t.secs]
abbrev tooksL (l : List Took) : CV := .list 2 (l.map Took.row)
def hostOne (s e : List UInt8) : Bool := decide (ofKeyF (s ++ e) = 0) && (hostR (s ++ e) == s)
def isHostB (s : List UInt8) : Bool := hostOne s [41, 47] || hostOne s [41, 115, 47]
def badT : Option Took → Took → Bool
  | none, _ => false
  | some q, x => ltB x.host q.host || x.host == q.host
def tookF (x : Took) : Int := if isHostB x.host = false then 5 else if inB 0 1000000 x.secs = false then 1 else 0
def tooksG : Option Took → List Took → Int
  | _, [] => 0
  | p, x :: r => if tookF x ≠ 0 then tookF x else if badT p x = true then 8 else tooksG (some x) r
def webF (p : List WPage) (t : List Took) : Int :=
  if 300 < p.length then 2 else if pagesG none p ≠ 0 then pagesG none p else if 300 < t.length then 2 else tooksG none t
def webCs (p : List WPage) (t : List Took) : List CV := [pagesL p, tooksL t]
theorem firstNZ_bad (p x : WPage) : decide (0 ≤ firstNZ [Lib.compareBytes p.addr x.addr, cmpI p.since x.since]) = ordBad p x := by
  unfold ordBad
  have n := cmpB_neg (a := p.addr) (b := x.addr)
  have z := cmpB_zero (a := p.addr) (b := x.addr)
  have q := cmpB_pos (a := p.addr) (b := x.addr)
  rcases Int.lt_trichotomy (Lib.compareBytes p.addr x.addr) 0 with h | h | h
  · have h1 := n.1 h
    have h2 := ltB_asymm h1
    have h3 : (x.addr == p.addr) = false := by
      rw [beq_eq_false_iff_ne]; intro e; rw [e, ltB_irrefl] at h1; cases h1
    have h4 : Lib.compareBytes p.addr x.addr ≠ 0 := by omega
    rw [h2, h3]
    simp [firstNZ, h4]
    omega
  · have h1 := z.1 h
    rw [h1, ltB_irrefl]
    have h4 : Lib.compareBytes x.addr x.addr = 0 := by rw [← h1]; exact (by rw [h1] at h ⊢; exact h)
    simp only [firstNZ, h4, cmpI, beq_self_eq_true, Bool.true_and, Bool.false_or, ne_eq, not_true, if_false]
    by_cases c1 : p.since < x.since
    · simp [c1, firstNZ]
    · by_cases c2 : x.since < p.since
      · simp [c1, c2, firstNZ]; omega
      · simp [c1, c2, firstNZ]; omega
  · have h1 := q.1 h
    have h4 : Lib.compareBytes p.addr x.addr ≠ 0 := by omega
    rw [h1]
    simp [firstNZ, h4]
    omega
theorem desk_isHost (s : List UInt8) (hl : s.length ≤ 300000000000000) : ACalls Tryz.prog 56 [.one (.str s)] (.x (.one (.bool (isHostB s)))) := by
  have m1 : s.length + 2 ≤ maxLen := by unfold maxLen; omega
  have m2 : s.length + 3 ≤ maxLen := by unfold maxLen; omega
  have k1 := address_HostOf (s ++ [41, 47])
  have k2 := address_HostOf (s ++ [41, 115, 47])
  have e1 : hostOne s [41, 47] = (decide (ofKeyF (s ++ [41, 47]) = 0) && (hostR (s ++ [41, 47]) == s)) := rfl
  have e2 : hostOne s [41, 115, 47] = (decide (ofKeyF (s ++ [41, 115, 47]) = 0) && (hostR (s ++ [41, 115, 47]) == s)) := rfl
  obtain ⟨B, eB⟩ : ∃ B, B = isHostB s := ⟨_, rfl⟩
  rw [← eB]
  unfold isHostB at eB
  generalize ofKeyF (s ++ [41, 47]) = F at k1 e1
  generalize ofKeyF (s ++ [41, 115, 47]) = G at k2 e2
  generalize hostR (s ++ [41, 47]) = X at k1 e1
  generalize hostR (s ++ [41, 115, 47]) = Y at k2 e2
  generalize hostOne s [41, 47] = P at e1 eB
  generalize hostOne s [41, 115, 47] = Q at e2 eB
  refine ACalls.of mixed (fn := Tryz.f56) (by kernel_rfl) (by kernel_rfl) rfl (by kernel_rfl) (by simp [Tryz.f56]) (fun hok => ?_)
  simp -implicitDefEqProofs
  refine ALoopS.of Nat (fun i => [(0, .x (.one (.str s))), (7, .own 9 1 [[.str [41, 47]], [.str [41, 115, 47]]]), (8, .x (.one (.int .i64 2))), (9, .x (.one (.int .i64 i)))]) (fun i => i ≤ 2 ∧ (1 ≤ i → P = false) ∧ (2 ≤ i → Q = false)) (fun i => 2 - i) 0 ⟨by omega, fun h => by omega, fun h => by omega⟩ ?_ ?_
  · simp
  rintro i ⟨hi, hp, hq⟩
  match i, hi, hp, hq with
  | 0, _, _, _ =>
    simp -implicitDefEqProofs [m1]
    refine ACallK.of k1 ?_
    by_cases hF : F = 0
    · subst hF
      cases hx : (X == s)
      · simp -implicitDefEqProofs [hx]
        exact Again.of 1 ⟨by omega, fun _ => by rw [e1, hx, Bool.and_false], fun h => by omega⟩ (by omega) (by simp [show IntKind.i64.wrap 1 = 1 from rfl, show IntKind.i64.wrap 2 = 2 from rfl])
      · have hB : B = true := by rw [eB, e1, hx]; rfl
        simp -implicitDefEqProofs [hx, hB]
    · have hb : (F == 0) = false := by simpa using hF
      simp -implicitDefEqProofs [hb, hF]
      exact Again.of 1 ⟨by omega, fun _ => by rw [e1, decide_eq_false hF, Bool.false_and], fun h => by omega⟩ (by omega) (by simp [show IntKind.i64.wrap 1 = 1 from rfl, show IntKind.i64.wrap 2 = 2 from rfl])
  | 1, _, hp, _ =>
    simp -implicitDefEqProofs [m2]
    refine ACallK.of k2 ?_
    by_cases hG : G = 0
    · subst hG
      cases hx : (Y == s)
      · simp -implicitDefEqProofs [hx]
        exact Again.of 2 ⟨by omega, fun _ => hp (by omega), fun _ => by rw [e2, hx, Bool.and_false]⟩ (by omega) (by simp [show IntKind.i64.wrap 1 = 1 from rfl, show IntKind.i64.wrap 2 = 2 from rfl])
      · have hB : B = true := by rw [eB, e2, hx]; simp
        simp -implicitDefEqProofs [hx, hB]
    · have hb : (G == 0) = false := by simpa using hG
      simp -implicitDefEqProofs [hb, hG]
      exact Again.of 2 ⟨by omega, fun _ => hp (by omega), fun _ => by rw [e2, decide_eq_false hG, Bool.false_and]⟩ (by omega) (by simp [show IntKind.i64.wrap 1 = 1 from rfl, show IntKind.i64.wrap 2 = 2 from rfl])
  | 2, _, hp, hq =>
    have hB : B = false := by rw [eB, hp (by omega), hq (by omega)]; rfl
    simp -implicitDefEqProofs [hB]
theorem ref12_isHost (s : List UInt8) (hl : s.length ≤ 300000000000000) : ACalls Tryz.prog 59 [.one (.str s)] (.x (.one (.bool (isHostB s)))) := by
  have m1 : s.length + 2 ≤ maxLen := by unfold maxLen; omega
  have m2 : s.length + 3 ≤ maxLen := by unfold maxLen; omega
  have k1 := ref1_HostOf (s ++ [41, 47])
  have k2 := ref1_HostOf (s ++ [41, 115, 47])
  have e1 : hostOne s [41, 47] = (decide (ofKeyF (s ++ [41, 47]) = 0) && (hostR (s ++ [41, 47]) == s)) := rfl
  have e2 : hostOne s [41, 115, 47] = (decide (ofKeyF (s ++ [41, 115, 47]) = 0) && (hostR (s ++ [41, 115, 47]) == s)) := rfl
  obtain ⟨B, eB⟩ : ∃ B, B = isHostB s := ⟨_, rfl⟩
  rw [← eB]
  unfold isHostB at eB
  generalize ofKeyF (s ++ [41, 47]) = F at k1 e1
  generalize ofKeyF (s ++ [41, 115, 47]) = G at k2 e2
  generalize hostR (s ++ [41, 47]) = X at k1 e1
  generalize hostR (s ++ [41, 115, 47]) = Y at k2 e2
  generalize hostOne s [41, 47] = P at e1 eB
  generalize hostOne s [41, 115, 47] = Q at e2 eB
  refine ACalls.of mixed (fn := Tryz.f59) (by kernel_rfl) (by kernel_rfl) rfl (by kernel_rfl) (by simp [Tryz.f59]) (fun hok => ?_)
  simp -implicitDefEqProofs
  refine ALoopS.of Nat (fun i => [(0, .x (.one (.str s))), (7, .own 9 1 [[.str [41, 47]], [.str [41, 115, 47]]]), (8, .x (.one (.int .i64 2))), (9, .x (.one (.int .i64 i)))]) (fun i => i ≤ 2 ∧ (1 ≤ i → P = false) ∧ (2 ≤ i → Q = false)) (fun i => 2 - i) 0 ⟨by omega, fun h => by omega, fun h => by omega⟩ ?_ ?_
  · simp
  rintro i ⟨hi, hp, hq⟩
  match i, hi, hp, hq with
  | 0, _, _, _ =>
    simp -implicitDefEqProofs [m1]
    refine ACallK.of k1 ?_
    by_cases hF : F = 0
    · subst hF
      cases hx : (X == s)
      · simp -implicitDefEqProofs [hx]
        exact Again.of 1 ⟨by omega, fun _ => by rw [e1, hx, Bool.and_false], fun h => by omega⟩ (by omega) (by simp [show IntKind.i64.wrap 1 = 1 from rfl, show IntKind.i64.wrap 2 = 2 from rfl])
      · have hB : B = true := by rw [eB, e1, hx]; rfl
        simp -implicitDefEqProofs [hx, hB]
    · have hb : (F == 0) = false := by simpa using hF
      simp -implicitDefEqProofs [hb, hF]
      exact Again.of 1 ⟨by omega, fun _ => by rw [e1, decide_eq_false hF, Bool.false_and], fun h => by omega⟩ (by omega) (by simp [show IntKind.i64.wrap 1 = 1 from rfl, show IntKind.i64.wrap 2 = 2 from rfl])
  | 1, _, hp, _ =>
    simp -implicitDefEqProofs [m2]
    refine ACallK.of k2 ?_
    by_cases hG : G = 0
    · subst hG
      cases hx : (Y == s)
      · simp -implicitDefEqProofs [hx]
        exact Again.of 2 ⟨by omega, fun _ => hp (by omega), fun _ => by rw [e2, hx, Bool.and_false]⟩ (by omega) (by simp [show IntKind.i64.wrap 1 = 1 from rfl, show IntKind.i64.wrap 2 = 2 from rfl])
      · have hB : B = true := by rw [eB, e2, hx]; simp
        simp -implicitDefEqProofs [hx, hB]
    · have hb : (G == 0) = false := by simpa using hG
      simp -implicitDefEqProofs [hb, hG]
      exact Again.of 2 ⟨by omega, fun _ => hp (by omega), fun _ => by rw [e2, decide_eq_false hG, Bool.false_and]⟩ (by omega) (by simp [show IntKind.i64.wrap 1 = 1 from rfl, show IntKind.i64.wrap 2 = 2 from rfl])
  | 2, _, hp, hq =>
    have hB : B = false := by rw [eB, hp (by omega), hq (by omega)]; rfl
    simp -implicitDefEqProofs [hB]
end Go.Proofs.YtklnopamfncfgaaGreatDoor
namespace Go.Proofs.YtklnopamfncfgaaGreatDoor
open Go Go.Ab
set_option linter.unusedSectionVars false
variable [Amb] [HasPow10 Tryz.prog] [HasErrSyntax Tryz.prog]
set_option maxRecDepth 100000
set_option maxHeartbeats 4000000
theorem lastO_zero {α : Type} (l : List α) : lastO l 0 = none := rfl
theorem lastO_succ {α : Type} (l : List α) {i : Nat} (h : i < l.length) : lastO l (i + 1) = some l[i] := by simp [lastO, h]
theorem desk_CheckWeb (p : List WPage) (tk : List Took) (hT : ∀ x ∈ tk, x.host.length ≤ 300000000000000) : ACalls Tryz.prog 18 [.agg (webCs p tk)] (.x (.one (.int .i64 (webF p tk)))) := by
  obtain ⟨F, eF⟩ : ∃ F, F = webF p tk := ⟨_, rfl⟩
  rw [← eF]
  unfold webF at eF
  unfold webCs
  refine ACalls.of mixed (fn := Tryz.f18) (by kernel_rfl) (by kernel_rfl) rfl (by kernel_rfl) (by simp [Tryz.f18]) (fun hok => ?_)
  by_cases h1 : 300 < p.length
  · have h1' : (300 < (p.length : Int)) = True := eq_true (by omega)
    rw [if_pos h1] at eF
    subst eF
    simp -implicitDefEqProofs [h1']
  have h1' : (300 < (p.length : Int)) = False := eq_false (by omega)
  rw [if_neg h1] at eF
  simp -implicitDefEqProofs [h1']
  refine ALoopS.of Nat (fun i => [(1, .box [pagesL p, tooksL tk]), (13, .x (.one (pagesL p))), (14, .x (.one (.int .i64 p.length))), (15, .x (.one (.int .i64 i)))]) (fun i => i ≤ p.length ∧ pagesG none p = pagesG (lastO p i) (p.drop i)) (fun i => p.length - i) 0 ⟨Nat.zero_le _, rfl⟩ ?_ ?_
  · simp
  rintro i ⟨hi, hG⟩
  by_cases hlt : i < p.length
  · have hlt' : ((i : Int) < (p.length : Int)) = True := eq_true (by omega)
    have hwr : IntKind.i64.wrap ((i : Int) + 1) = (i : Int) + 1 := wrapS _ (by omega)
    rw [List.drop_eq_getElem_cons hlt, pagesG] at hG
    have hrow : p[i].row = [.str p[i].addr, .int .i64 p[i].since, .int .i64 p[i].status, .str p[i].typ, .str p[i].dest, bytesL p[i].body] := rfl
    have k1 := desk_checkPage p[i]
    rw [hrow] at k1
    obtain ⟨f, ef⟩ : ∃ f, f = pageF p[i] := ⟨_, rfl⟩
    rw [← ef] at hG k1
    simp -implicitDefEqProofs [hlt, hlt', hrow]
    refine ACallK.of k1 ?_
    by_cases hf : f = 0
    rotate_left
    · rw [if_pos hf] at hG
      have eF2 : F = f := by rw [eF, hG, if_pos hf]
      have hb : (f == 0) = false := by simpa using hf
      simp -implicitDefEqProofs [hb, hf, eF2]
    subst hf
    rw [if_neg (by simp)] at hG
    cases i with
    | zero =>
      rw [lastO_zero] at hG
      have wm : IntKind.i64.wrap (-1) = -1 := rfl
      have hG2 : pagesG none p = pagesG (lastO p 1) (p.drop 1) := by
        rw [hG, lastO_succ p hlt]; rfl
      simp -implicitDefEqProofs [hlt, hlt', hrow, wm]
      refine ACallGS.of (fun h => by cases h) (r := .x (.one (.int .i64 0))) rfl ?_
      simp -implicitDefEqProofs [hlt, hlt', hrow, wm]
      refine ACallGS.of (fun h => by cases h) (r := .x (.one (.int .i64 0))) rfl ?_
      simp -implicitDefEqProofs [hlt, hlt', hrow, wm]
      refine ACallGS.of (fun h => by cases h) (r := .x (.one (.int .i64 0))) rfl ?_
      simp -implicitDefEqProofs [hlt, hlt', hrow, wm]
      exact Again.of 1 ⟨by omega, hG2⟩ (by omega) (by simp [show IntKind.i64.wrap 1 = 1 from rfl])
    | succ j =>
      have hj : j < p.length := by omega
      rw [lastO_succ p hj] at hG
      have ec : ((j + 1 : Nat) : Int) = (j : Int) + 1 := by omega
      have c0 : (0 < (j : Int) + 1) = True := eq_true (by omega)
      have c1 : IntKind.i64.wrap ((j : Int) + 1 - 1) = (j : Int) := by rw [wrapS _ (by omega)]; omega
      have c4 : IntKind.i64.wrap (j : Int) = (j : Int) := wrapS _ (by omega)
      have c2 : ((j : Int) < (p.length : Int)) = True := eq_true (by omega)
      have c3 : (0 ≤ (j : Int)) = True := eq_true (by omega)
      have hrow2 : p[j].row = [.str p[j].addr, .int .i64 p[j].since, .int .i64 p[j].status, .str p[j].typ, .str p[j].dest, bytesL p[j].body] := rfl
      have k2 := strings_Compare p[j].addr p[j + 1].addr
      have k3 := cmp_Compare p[j].since p[j + 1].since
      have k4 := cmp_Or [Lib.compareBytes p[j].addr p[j + 1].addr, cmpI p[j].since p[j + 1].since]
      have e4 : badO (some p[j]) p[j + 1] = decide (0 ≤ firstNZ [Lib.compareBytes p[j].addr p[j + 1].addr, cmpI p[j].since p[j + 1].since]) := (firstNZ_bad _ _).symm
      have e5 : (XV.one (.list 1 ([Lib.compareBytes p[j].addr p[j + 1].addr, cmpI p[j].since p[j + 1].since].map intRow))) = .one (.list 1 [[.int .i64 (Lib.compareBytes p[j].addr p[j + 1].addr)], [.int .i64 (cmpI p[j].since p[j + 1].since)]]) := rfl
      rw [e5] at k4
      rw [e4] at hG
      rw [ec] at hlt' hwr
      generalize firstNZ [Lib.compareBytes p[j].addr p[j + 1].addr, cmpI p[j].since p[j + 1].since] = O at k4 hG
      simp -implicitDefEqProofs [hlt, hlt', hrow, hrow2, hj, ec, c0, c1, c2, c3, c4]
      refine ACallGS.of (fun _ => k2) rfl ?_
      simp -implicitDefEqProofs [hlt, hlt', hrow, hrow2, hj, ec, c0, c1, c2, c3, c4]
      refine ACallGS.of (fun _ => k3) rfl ?_
      simp -implicitDefEqProofs [hlt, hlt', hrow, hrow2, hj, ec, c0, c1, c2, c3, c4]
      refine ACallGS.of (fun _ => k4) rfl ?_
      by_cases hO : 0 ≤ O
      · have hO' : (0 ≤ O) = True := eq_true hO
        rw [decide_eq_true hO, if_pos rfl] at hG
        have eF2 : F = 8 := by rw [eF, hG, if_pos (by decide)]
        simp -implicitDefEqProofs [hO', c0, eF2]
      · have hO' : (0 ≤ O) = False := eq_false hO
        rw [decide_eq_false hO, if_neg (by decide)] at hG
        simp -implicitDefEqProofs [hO', c0, hwr]
        exact Again.of (j + 1 + 1) ⟨by omega, by rw [lastO_succ p hlt]; exact hG⟩ (by omega) (by simp [hwr])
  have hlt' : ((i : Int) < (p.length : Int)) = False := eq_false (by omega)
  have hG0 : pagesG none p = 0 := by
    rw [hG, List.drop_of_length_le (by omega)]
    cases lastO p i <;> rfl
  rw [hG0, if_neg (by simp)] at eF
  by_cases h2 : 300 < tk.length
  · have h2' : (300 < (tk.length : Int)) = True := eq_true (by omega)
    rw [if_pos h2] at eF
    subst eF
    simp -implicitDefEqProofs [hlt', h2']
  have h2' : (300 < (tk.length : Int)) = False := eq_false (by omega)
  rw [if_neg h2] at eF
  simp -implicitDefEqProofs [hlt', h2']
  refine ALoopS.of Nat (fun i => [(1, .box [pagesL p, tooksL tk]), (58, .x (.one (tooksL tk))), (59, .x (.one (.int .i64 tk.length))), (60, .x (.one (.int .i64 i)))]) (fun i => i ≤ tk.length ∧ F = tooksG (lastO tk i) (tk.drop i)) (fun i => tk.length - i) 0 ⟨Nat.zero_le _, eF⟩ ?_ ?_
  · simp
  rintro i ⟨hi, hG⟩
  by_cases hlt : i < tk.length
  · have hlt' : ((i : Int) < (tk.length : Int)) = True := eq_true (by omega)
    have hwr : IntKind.i64.wrap ((i : Int) + 1) = (i : Int) + 1 := wrapS _ (by omega)
    rw [List.drop_eq_getElem_cons hlt, tooksG] at hG
    have hrow : tk[i].row = [.str tk[i].host, .int .i64 tk[i].secs] := rfl
    have k1 := desk_isHost tk[i].host (hT _ (List.getElem_mem hlt))
    have k2 := desk_within tk[i].secs 0 1000000
    have ef : tookF tk[i] = if isHostB tk[i].host = false then 5 else if inB 0 1000000 tk[i].secs = false then 1 else 0 := rfl
    generalize isHostB tk[i].host = H at k1 ef
    generalize inB 0 1000000 tk[i].secs = S at k2 ef
    simp -implicitDefEqProofs [hlt, hlt', hrow]
    refine ACallK.of k1 ?_
    cases H
    · rw [if_pos rfl] at ef
      rw [ef, if_pos (by decide)] at hG
      subst hG
      simp -implicitDefEqProofs
    rw [if_neg (by decide)] at ef
    simp -implicitDefEqProofs [hlt, hlt', hrow]
    refine ACallK.of k2 ?_
    cases S
    · rw [if_pos rfl] at ef
      rw [ef, if_pos (by decide)] at hG
      subst hG
      simp -implicitDefEqProofs
    rw [if_neg (by decide)] at ef
    rw [ef, if_neg (by decide)] at hG
    cases i with
    | zero =>
      rw [lastO_zero] at hG
      have wm : IntKind.i64.wrap (-1) = -1 := rfl
      have hG2 : F = tooksG (lastO tk 1) (tk.drop 1) := by
        rw [hG, lastO_succ tk hlt]; rfl
      simp -implicitDefEqProofs [hlt, hlt', hrow, wm]
      exact Again.of 1 ⟨by omega, hG2⟩ (by omega) (by simp [show IntKind.i64.wrap 1 = 1 from rfl])
    | succ j =>
      have hj : j < tk.length := by omega
      rw [lastO_succ tk hj] at hG
      have ec : ((j + 1 : Nat) : Int) = (j : Int) + 1 := by omega
      have c0 : (0 < (j : Int) + 1) = True := eq_true (by omega)
      have c1 : IntKind.i64.wrap ((j : Int) + 1 - 1) = (j : Int) := by rw [wrapS _ (by omega)]; omega
      have c4 : IntKind.i64.wrap (j : Int) = (j : Int) := wrapS _ (by omega)
      have c2 : ((j : Int) < (tk.length : Int)) = True := eq_true (by omega)
      have c3 : (0 ≤ (j : Int)) = True := eq_true (by omega)
      have hrow2 : tk[j].row = [.str tk[j].host, .int .i64 tk[j].secs] := rfl
      have e4 : badT (some tk[j]) tk[j + 1] = (ltB tk[j + 1].host tk[j].host || tk[j + 1].host == tk[j].host) := rfl
      rw [e4] at hG
      rw [ec] at hlt' hwr
      generalize hO : (ltB tk[j + 1].host tk[j].host || tk[j + 1].host == tk[j].host) = O at hG
      cases O
      · rw [if_neg (by decide)] at hG
        simp -implicitDefEqProofs [hlt, hlt', hrow, hrow2, hj, ec, c0, c1, c2, c3, c4, hO, hwr]
        exact Again.of (j + 1 + 1) ⟨by omega, by rw [lastO_succ tk hlt]; exact hG⟩ (by omega) (by simp [hwr])
      · rw [if_pos rfl] at hG
        subst hG
        simp -implicitDefEqProofs [hlt, hlt', hrow, hrow2, hj, ec, c0, c1, c2, c3, c4, hO]
  · have hlt' : ((i : Int) < (tk.length : Int)) = False := eq_false (by omega)
    have hF : F = 0 := by
      rw [hG, List.drop_of_length_le (by omega)]
      cases lastO tk i <;> rfl
    subst hF
    simp -implicitDefEqProofs [hlt']
end Go.Proofs.YtklnopamfncfgaaGreatDoor
namespace Go.Proofs.YtklnopamfncfgaaGreatDoor
open Go Go.Ab
set_option linter.unusedSectionVars false
variable [Amb] [HasPow10 Tryz.prog] [HasErrSyntax Tryz.prog]
set_option maxRecDepth 100000
set_option maxHeartbeats 4000000
structure Answer where
  status : Int
  reason : List UInt8
  heads : List Head
  body : List UInt8
def Answer.row (a : Answer) : List CV := [.int .i64 a.status, .str a.reason, .list 2 (a.heads.map Head.row), bytesL a.body]
def typeS : List UInt8 := [116, 121, 112, 101]
def locationS : List UInt8 := [108, 111, 99, 97, 116, 105, 111, 110]
def pageHeads (x : WPage) : List Head := (if x.typ = [] then [] else [⟨typeS, x.typ⟩]) ++ (if x.dest = [] then [] else [⟨locationS, x.dest⟩])
def pageAnswer (x : WPage) : Answer := ⟨x.status, [], pageHeads x, x.body⟩
def pageFits (text : List UInt8) (n : Int) (x : WPage) : Bool := x.addr == text && decide (x.since ≤ n)
def askedO (p : List WPage) (text : List UInt8) (n : Int) : Option WPage := p.foldl (fun a x => if pageFits text n x = true then some x else a) none
def answerO : Option WPage → Answer
  | none => ⟨404, [], [], []⟩
  | some x => pageAnswer x
def askedA (p : List WPage) (text : List UInt8) (n : Int) : Answer := answerO (askedO p text n)
theorem askedO_step {p : List WPage} {text : List UInt8} {n : Int} {k : Nat} (h : k < p.length) : askedO (p.take (k + 1)) text n = if pageFits text n p[k] = true then some p[k] else askedO (p.take k) text n := by
  unfold askedO
  rw [List.take_succ_eq_append_getElem h, List.foldl_append]; rfl
def headsC (x : WPage) : CV := if x.typ = [] ∧ x.dest = [] then .nil else .list 2 ((pageHeads x).map Head.row)
@[simp] theorem isAny_headsC (x : WPage) : (headsC x).isAny = false := by unfold headsC; split <;> rfl
def ansC : Option WPage → List CV
  | none => [.int .i64 404, .str [], .nil, .nil]
  | some x => [.int .i64 x.status, .str [], headsC x, bytesL x.body]
theorem ansC_le (o : Option WPage) : leL (ansC o) (answerO o).row := by
  cases o with
  | none => exact ⟨.inl rfl, .inl rfl, .inr ⟨rfl, 2, rfl⟩, .inr ⟨rfl, 1, rfl⟩, trivial⟩
  | some x =>
    refine ⟨.inl rfl, .inl rfl, ?_, .inl rfl, trivial⟩
    unfold headsC
    split
    · rename_i h
      refine .inr ⟨rfl, 2, ?_⟩
      simp [answerO, pageAnswer, pageHeads, h]
    · exact .inl rfl
theorem slices_CloneB (l : List UInt8) (hb : l.length ≤ 16777216) : ACalls Tryz.prog 102 [.one (bytesL l)] (.x (.one (bytesL l))) := by
  cases l with
  | nil =>
    refine ACalls.split_list (pre := []) (post := []) ?_ ?_
    · refine ACalls.of mixed (fn := Tryz.f102) (by kernel_rfl) (by kernel_rfl) rfl (by kernel_rfl) (by simp [Tryz.f102]) (fun hok => ?_)
      simp -implicitDefEqProofs +contextual [-Bool.and_eq_false_imp, Bool.and_eq_false_iff]
    · refine ACalls.of mixed (fn := Tryz.f102) (by kernel_rfl) (by kernel_rfl) rfl (by kernel_rfl) (by simp [Tryz.f102]) (fun hok => ?_)
      simp -implicitDefEqProofs +contextual [-Bool.and_eq_false_imp, Bool.and_eq_false_iff]
  | cons x r =>
    refine ACalls.of mixed (fn := Tryz.f102) (by kernel_rfl) (by kernel_rfl) rfl (by kernel_rfl) (by simp [Tryz.f102]) (fun hok => ?_)
    simp -implicitDefEqProofs +contextual [-Bool.and_eq_false_imp, Bool.and_eq_false_iff, byteRow]
    simp at hb
    unfold maxLen
    omega
theorem ACalls_leR {P : Program} {f : FuncId} {xs : List XV} {cs cs' : List CV} (h : leL cs cs') (hc : ACalls P f xs (.x (.agg cs))) : ACalls P f xs (.x (.agg cs')) :=
  ⟨hc.1, fun w S vs hS ha => (hc.2 w S vs hS ha).mono fun _ _ ⟨v, he, hb, hr, hf⟩ => ⟨v, he, hb, RepX.le h hr, fun b hbb => by cases hbb⟩⟩
theorem desk_asked (p : List WPage) (tk : List Took) (text : List UInt8) (n : Int) (hp : p.length ≤ 300) (hb : ∀ x ∈ p, x.body.length ≤ 16777216) : ACalls Tryz.prog 49 [.agg (webCs p tk), .one (.str text), .one (.int .i64 n)] (.x (.agg (askedA p text n).row)) := by
  obtain ⟨R, eR⟩ : ∃ R, R = askedO p text n := ⟨_, rfl⟩
  unfold askedA
  rw [← eR]
  unfold webCs
  refine ACalls_leR (ansC_le R) ?_
  refine ACalls.ofL [(7, 2)] [] (by simp) mixed (fn := Tryz.f49) (by kernel_rfl) (by kernel_rfl) rfl (by kernel_rfl) (by simp [Tryz.f49]) (fun hok => ?_)
  simp -implicitDefEqProofs [MARK]
  refine ALoopS.of Nat (fun i => [(1, .x (.one (.str text))), (2, .x (.one (.int .i64 n))), (6, .box [.int .i64 0, .str [], .nil, .nil]), (7, .box (ansC (askedO (p.take i) text n))), (12, .x (.one (pagesL p))), (13, .x (.one (.int .i64 p.length))), (14, .x (.one (.int .i64 i))), (999999, .res [(7, 2)])]) (fun i => i ≤ p.length) (fun i => p.length - i) 0 (Nat.zero_le _) ?_ ?_
  · simp [askedO, ansC]
  rintro i hi
  by_cases hlt : i < p.length
  · have hlt' : ((i : Int) < (p.length : Int)) = True := eq_true (by omega)
    have hwr : IntKind.i64.wrap ((i : Int) + 1) = (i : Int) + 1 := wrapS _ (by omega)
    have hrow : p[i].row = [.str p[i].addr, .int .i64 p[i].since, .int .i64 p[i].status, .str p[i].typ, .str p[i].dest, bytesL p[i].body] := rfl
    have hst := askedO_step (text := text) (n := n) hlt
    unfold pageFits at hst
    have kc := slices_CloneB p[i].body (hb _ (List.getElem_mem hlt))
    cases h1 : p[i].addr == text
    · have h1' : (p[i].addr != text) = true := by simp [bne, h1]
      rw [h1] at hst
      simp -implicitDefEqProofs [MARK, hlt, hlt', hrow, h1, h1']
      exact Again.of (i + 1) hlt (by omega) (by rw [hst]; simp [hwr])
    have h1' : (p[i].addr != text) = false := by simp [bne, h1]
    by_cases h2 : n < p[i].since
    · have h2' : (n < p[i].since) = True := eq_true h2
      rw [decide_eq_false (by omega : ¬ p[i].since ≤ n), Bool.and_false] at hst
      simp -implicitDefEqProofs [MARK, hlt, hlt', hrow, h1, h1', h2']
      exact Again.of (i + 1) hlt (by omega) (by rw [hst]; simp [hwr])
    have h2' : (n < p[i].since) = False := eq_false h2
    rw [h1, decide_eq_true (by omega : p[i].since ≤ n), Bool.and_true, if_pos rfl] at hst
    have hX : ∀ X : Option WPage, (AV.box (ansC X)).told = true := by
      intro X
      cases X <;> simp [ansC]
    generalize askedO (p.take i) text n = X at *
    have ha : ∀ X : Option WPage, ∃ a b c d, ansC X = [.int .i64 a, .str b, c, d] ∧ c.isAny = false ∧ d.isAny = false := by
      intro X
      cases X with
      | none => exact ⟨_, _, _, _, rfl, rfl, rfl⟩
      | some y => exact ⟨_, _, _, _, rfl, isAny_headsC y, rfl⟩
    obtain ⟨xa, xb, xc, xd, eX, ec, ed⟩ := ha X
    rw [eX]
    simp -implicitDefEqProofs [MARK, hlt, hlt', hrow, h1, h1', h2']
    refine AltR.l ⟨by kernel_rfl, ?_⟩
    simp -implicitDefEqProofs [MARK, hlt, hlt', hrow, h1, h1', h2', ec, ed]
    refine ACallK.of kc ?_
    have hA : askedO (p.take (i + 1)) text n = some p[i] := hst
    by_cases ht : p[i].typ = []
    · have ht' : (p[i].typ != []) = false := by simp [ht]
      by_cases hd : p[i].dest = []
      · have hd' : (p[i].dest != []) = false := by simp [hd]
        simp -implicitDefEqProofs [MARK, hlt, hlt', hrow, ht, ht', hd, hd', ec, ed]
        exact Again.of (i + 1) hlt (by omega) (by rw [hA]; simp [hwr, ansC, headsC, ht, hd])
      · have hd' : (p[i].dest != []) = true := by simpa using hd
        simp -implicitDefEqProofs [MARK, hlt, hlt', hrow, ht, ht', hd, hd', ec, ed]
        exact Again.ofF [(7, 2)] (i + 1) hlt (by omega) (by rw [hA]; simp [hwr, ansC, headsC, ht, hd, pageHeads, Head.row, locationS])
    · have ht' : (p[i].typ != []) = true := by simpa using ht
      by_cases hd : p[i].dest = []
      · have hd' : (p[i].dest != []) = false := by simp [hd]
        simp -implicitDefEqProofs [MARK, hlt, hlt', hrow, ht, ht', hd, hd', ec, ed]
        exact Again.ofF [(7, 2)] (i + 1) hlt (by omega) (by rw [hA]; simp [hwr, ansC, headsC, ht, hd, pageHeads, Head.row, typeS])
      · have hd' : (p[i].dest != []) = true := by simpa using hd
        simp -implicitDefEqProofs [MARK, hlt, hlt', hrow, ht, ht', hd, hd', ec, ed]
        exact Again.ofF [(7, 2)] (i + 1) hlt (by omega) (by rw [hA]; simp [hwr, ansC, headsC, ht, hd, pageHeads, Head.row, typeS, locationS])
  · have hlt' : ((i : Int) < (p.length : Int)) = False := eq_false (by omega)
    have he : p.take i = p := List.take_of_length_le (by omega)
    rw [he, ← eR]
    have hl : (ansC R).length = 4 := by cases R <;> rfl
    generalize ansC R = C at *
    match C, hl with
    | [c0, c1, c2, c3], _ =>
      simp -implicitDefEqProofs [MARK, hlt']
theorem ref12_asked (p : List WPage) (tk : List Took) (text : List UInt8) (n : Int) (hp : p.length ≤ 300) (hb : ∀ x ∈ p, x.body.length ≤ 16777216) : ACalls Tryz.prog 51 [.agg (webCs p tk), .one (.str text), .one (.int .i64 n)] (.x (.agg (askedA p text n).row)) := by
  obtain ⟨R, eR⟩ : ∃ R, R = askedO p text n := ⟨_, rfl⟩
  unfold askedA
  rw [← eR]
  unfold webCs
  refine ACalls_leR (ansC_le R) ?_
  refine ACalls.ofL [(7, 2)] [] (by simp) mixed (fn := Tryz.f51) (by kernel_rfl) (by kernel_rfl) rfl (by kernel_rfl) (by simp [Tryz.f51]) (fun hok => ?_)
  simp -implicitDefEqProofs [MARK]
  refine ALoopS.of Nat (fun i => [(1, .x (.one (.str text))), (2, .x (.one (.int .i64 n))), (6, .box [.int .i64 0, .str [], .nil, .nil]), (7, .box (ansC (askedO (p.take i) text n))), (12, .x (.one (pagesL p))), (13, .x (.one (.int .i64 p.length))), (14, .x (.one (.int .i64 i))), (999999, .res [(7, 2)])]) (fun i => i ≤ p.length) (fun i => p.length - i) 0 (Nat.zero_le _) ?_ ?_
  · simp [askedO, ansC]
  rintro i hi
  by_cases hlt : i < p.length
  · have hlt' : ((i : Int) < (p.length : Int)) = True := eq_true (by omega)
    have hwr : IntKind.i64.wrap ((i : Int) + 1) = (i : Int) + 1 := wrapS _ (by omega)
    have hrow : p[i].row = [.str p[i].addr, .int .i64 p[i].since, .int .i64 p[i].status, .str p[i].typ, .str p[i].dest, bytesL p[i].body] := rfl
    have hst := askedO_step (text := text) (n := n) hlt
    unfold pageFits at hst
    have kc := slices_CloneB p[i].body (hb _ (List.getElem_mem hlt))
    cases h1 : p[i].addr == text
    · have h1' : (p[i].addr != text) = true := by simp [bne, h1]
      rw [h1] at hst
      simp -implicitDefEqProofs [MARK, hlt, hlt', hrow, h1, h1']
      exact Again.of (i + 1) hlt (by omega) (by rw [hst]; simp [hwr])
    have h1' : (p[i].addr != text) = false := by simp [bne, h1]
    by_cases h2 : n < p[i].since
    · have h2' : (n < p[i].since) = True := eq_true h2
      rw [decide_eq_false (by omega : ¬ p[i].since ≤ n), Bool.and_false] at hst
      simp -implicitDefEqProofs [MARK, hlt, hlt', hrow, h1, h1', h2']
      exact Again.of (i + 1) hlt (by omega) (by rw [hst]; simp [hwr])
    have h2' : (n < p[i].since) = False := eq_false h2
    rw [h1, decide_eq_true (by omega : p[i].since ≤ n), Bool.and_true, if_pos rfl] at hst
    have hX : ∀ X : Option WPage, (AV.box (ansC X)).told = true := by
      intro X
      cases X <;> simp [ansC]
    generalize askedO (p.take i) text n = X at *
    have ha : ∀ X : Option WPage, ∃ a b c d, ansC X = [.int .i64 a, .str b, c, d] ∧ c.isAny = false ∧ d.isAny = false := by
      intro X
      cases X with
      | none => exact ⟨_, _, _, _, rfl, rfl, rfl⟩
      | some y => exact ⟨_, _, _, _, rfl, isAny_headsC y, rfl⟩
    obtain ⟨xa, xb, xc, xd, eX, ec, ed⟩ := ha X
    rw [eX]
    simp -implicitDefEqProofs [MARK, hlt, hlt', hrow, h1, h1', h2']
    refine AltR.l ⟨by kernel_rfl, ?_⟩
    simp -implicitDefEqProofs [MARK, hlt, hlt', hrow, h1, h1', h2', ec, ed]
    refine ACallK.of kc ?_
    have hA : askedO (p.take (i + 1)) text n = some p[i] := hst
    by_cases ht : p[i].typ = []
    · have ht' : (p[i].typ != []) = false := by simp [ht]
      by_cases hd : p[i].dest = []
      · have hd' : (p[i].dest != []) = false := by simp [hd]
        simp -implicitDefEqProofs [MARK, hlt, hlt', hrow, ht, ht', hd, hd', ec, ed]
        exact Again.of (i + 1) hlt (by omega) (by rw [hA]; simp [hwr, ansC, headsC, ht, hd])
      · have hd' : (p[i].dest != []) = true := by simpa using hd
        simp -implicitDefEqProofs [MARK, hlt, hlt', hrow, ht, ht', hd, hd', ec, ed]
        exact Again.ofF [(7, 2)] (i + 1) hlt (by omega) (by rw [hA]; simp [hwr, ansC, headsC, ht, hd, pageHeads, Head.row, locationS])
    · have ht' : (p[i].typ != []) = true := by simpa using ht
      by_cases hd : p[i].dest = []
      · have hd' : (p[i].dest != []) = false := by simp [hd]
        simp -implicitDefEqProofs [MARK, hlt, hlt', hrow, ht, ht', hd, hd', ec, ed]
        exact Again.ofF [(7, 2)] (i + 1) hlt (by omega) (by rw [hA]; simp [hwr, ansC, headsC, ht, hd, pageHeads, Head.row, typeS])
      · have hd' : (p[i].dest != []) = true := by simpa using hd
        simp -implicitDefEqProofs [MARK, hlt, hlt', hrow, ht, ht', hd, hd', ec, ed]
        exact Again.ofF [(7, 2)] (i + 1) hlt (by omega) (by rw [hA]; simp [hwr, ansC, headsC, ht, hd, pageHeads, Head.row, typeS, locationS])
  · have hlt' : ((i : Int) < (p.length : Int)) = False := eq_false (by omega)
    have he : p.take i = p := List.take_of_length_le (by omega)
    rw [he, ← eR]
    have hl : (ansC R).length = 4 := by cases R <;> rfl
    generalize ansC R = C at *
    match C, hl with
    | [c0, c1, c2, c3], _ =>
      simp -implicitDefEqProofs [MARK, hlt']
end Go.Proofs.YtklnopamfncfgaaGreatDoor
namespace Go.Proofs.YtklnopamfncfgaaGreatDoor
open Go Go.Ab
set_option linter.unusedSectionVars false
variable [Amb] [HasPow10 Tryz.prog] [HasErrSyntax Tryz.prog]
set_option maxRecDepth 100000
set_option maxHeartbeats 4000000
theorem noAddr_fit : noAddr.Fit := by constructor <;> decide
theorem normalR_fit (a : Addr) : (normalR a).Fit := by
  unfold normalR
  split
  · rename_i h; exact Fit_of (normalF_ok h).2
  · exact noAddr_fit
def page12F (l : List WPage) (i : Nat) (x : WPage) : Int := if pageF x ≠ 0 then pageF x else if badO (lastO l i) x = true then 8 else 0
theorem ref12_checkPage (l : List WPage) (i : Nat) (hi : i < l.length) (hl : l.length ≤ 300) : ACalls Tryz.prog 58 [.one (pagesL l), .one (.int .i64 i)] (.x (.one (.int .i64 (page12F l i l[i])))) := by
  obtain ⟨x, ex⟩ : ∃ x, l[i] = x := ⟨_, rfl⟩
  rw [ex]
  have k1 := ref1_Read x.addr
  have hok := fun h => readAR_addr (t := x.addr) h
  have hrow : l[i].row = [.str x.addr, .int .i64 x.since, .int .i64 x.status, .str x.typ, .str x.dest, bytesL x.body] := by rw [ex]; rfl
  obtain ⟨F, eF⟩ : ∃ F, F = page12F l i x := ⟨_, rfl⟩
  rw [← eF]
  unfold page12F at eF
  obtain ⟨Q, eQ⟩ : ∃ Q, Q = pageF x := ⟨_, rfl⟩
  rw [← eQ] at eF
  unfold pageF at eQ
  generalize readAR x.addr = R at k1 eQ hok
  obtain ⟨A, n, f⟩ := R
  simp only at k1 eQ hok
  by_cases h0 : f = 0
  rotate_left
  · rw [if_pos h0] at eQ
    subst eQ
    rw [if_pos (by decide)] at eF
    subst eF
    have hb : (f == 0) = false := by simpa using h0
    clear hok
    obtain ⟨xsc, xho, xpo, xpa, xqu, xhq, xfr, xhfr⟩ := A
    simp only [Addr.row] at k1
    refine ACalls.of mixed (fn := Tryz.f58) (by kernel_rfl) (by kernel_rfl) rfl (by kernel_rfl) (by simp [Tryz.f58]) (fun hok => ?_)
    simp -implicitDefEqProofs [hi, hrow]
    refine ACallK.of k1 ?_
    simp -implicitDefEqProofs [h0, hb]
  rw [if_neg (fun h => h h0)] at eQ
  have hne := (hok h0).2
  have k2 := ref1_Normal A (Fit_of (hok h0).1)
  have k2t := ref1_Text (normalR A) (normalR_fit A)
  have hT : (normalF A = 0 → textL (normalR A) = normTextL A ∧ addrF (normalR A) = 0) ∧ (normalF A ≠ 0 → normTextL A = []) := by
    refine ⟨fun h => ?_, fun h => ?_⟩
    · unfold normTextL normalR textL
      rw [if_pos h, if_pos h, (normalF_ok h).2]
      exact ⟨rfl, rfl⟩
    · unfold normTextL; rw [if_neg h]
  clear hok
  generalize normTextL A = T at eQ hT
  generalize normalF A = G at k2 hT
  generalize textL (normalR A) = T2 at k2t hT
  generalize addrF (normalR A) = G2 at k2t hT
  generalize normalR A = B at k2 k2t
  have k5 := ref12_isValue x.typ
  have k6 := ref12_isValue x.dest
  have k7 := ref12_isBare x.status
  have em : momentB x.since = inB 0 253402300799 x.since := rfl
  rw [em] at eQ
  unfold inB at eQ
  generalize valB x.typ = v at k5 eQ
  generalize valB x.dest = u at k6 eQ
  generalize bareB x.status = b at k7 eQ
  subst h0
  obtain ⟨asc, aho, apo, apa, aqu, ahq, afr, ahfr⟩ := A
  obtain ⟨bsc, bho, bpo, bpa, bqu, bhq, bfr, bhfr⟩ := B
  simp only [Addr.row] at k1 k2 k2t
  have early : ∀ k : Int, k ≠ 0 → Q = k → F = k := by
    intro k hk hq
    rw [hq, if_pos hk] at eF
    exact eF
  refine ACalls.of mixed (fn := Tryz.f58) (by kernel_rfl) (by kernel_rfl) rfl (by kernel_rfl) (by simp [Tryz.f58]) (fun hok => ?_)
  simp -implicitDefEqProofs [hi, hrow]
  refine ACallK.of k1 ?_
  simp -implicitDefEqProofs [hi, hrow]
  refine ACallK.of k2 ?_
  simp -implicitDefEqProofs [hi, hrow]
  refine ACallK.of k2t ?_
  by_cases hG : G = 0
  rotate_left
  · have hGb : (G == 0) = false := by simpa using hG
    have hGn : (G != 0) = true := by simpa using hG
    rw [hT.2 hG, if_pos (fun h => hne h.symm)] at eQ
    have hF := early 3 (by decide) eQ
    subst hF
    simp -implicitDefEqProofs [hi, hrow, hG, hGb, hGn]
  obtain ⟨e1, e2⟩ := hT.1 hG
  subst e1 e2 hG
  by_cases hTx : T2 = x.addr
  rotate_left
  · rw [if_pos hTx] at eQ
    have hF := early 3 (by decide) eQ
    subst hF
    have hb : (T2 == x.addr) = false := by simpa using hTx
    have hb2 : (T2 != x.addr) = true := by simpa using hTx
    simp -implicitDefEqProofs [hi, hrow, hb, hb2, hTx]
  rw [if_neg (fun h => h hTx)] at eQ
  have hb : (T2 == x.addr) = true := by simpa using hTx
  have hb2 : (T2 != x.addr) = false := by simpa using hTx
  by_cases c1 : x.since < 0
  · have c1' : (x.since < 0) = True := eq_true c1
    rw [decide_eq_false (by omega : ¬ 0 ≤ x.since), Bool.false_and, if_pos (.inl rfl)] at eQ
    have hF := early 1 (by decide) eQ
    subst hF
    simp -implicitDefEqProofs [hi, hrow, hb, hb2, c1']
  have c1' : (x.since < 0) = False := eq_false c1
  by_cases c2 : 253402300799 < x.since
  · have c2' : (253402300799 < x.since) = True := eq_true c2
    rw [decide_eq_true (by omega : 0 ≤ x.since), decide_eq_false (by omega : ¬ x.since ≤ 253402300799), if_pos (.inl rfl)] at eQ
    have hF := early 1 (by decide) eQ
    subst hF
    simp -implicitDefEqProofs [hi, hrow, hb, hb2, c1', c2']
  have c2' : (253402300799 < x.since) = False := eq_false c2
  by_cases c3 : x.status < 100
  · have c3' : (x.status < 100) = True := eq_true c3
    rw [decide_eq_false (by omega : ¬ 100 ≤ x.status), Bool.false_and, if_pos (.inr rfl)] at eQ
    have hF := early 1 (by decide) eQ
    subst hF
    simp -implicitDefEqProofs [hi, hrow, hb, hb2, c1', c2', c3']
  have c3' : (x.status < 100) = False := eq_false c3
  by_cases c4 : 599 < x.status
  · have c4' : (599 < x.status) = True := eq_true c4
    rw [decide_eq_true (by omega : 100 ≤ x.status), decide_eq_false (by omega : ¬ x.status ≤ 599), if_pos (.inr rfl)] at eQ
    have hF := early 1 (by decide) eQ
    subst hF
    simp -implicitDefEqProofs [hi, hrow, hb, hb2, c1', c2', c3', c4']
  have c4' : (599 < x.status) = False := eq_false c4
  rw [decide_eq_true (by omega : 0 ≤ x.since), decide_eq_true (by omega : x.since ≤ 253402300799), decide_eq_true (by omega : 100 ≤ x.status), decide_eq_true (by omega : x.status ≤ 599), if_neg (by simp)] at eQ
  simp -implicitDefEqProofs [hi, hrow, hb, hb2, c1', c2', c3', c4']
  refine ACallK.of k5 ?_
  cases v
  · rw [if_pos (.inl rfl)] at eQ
    have hF := early 3 (by decide) eQ
    subst hF
    simp -implicitDefEqProofs [hi, hrow]
    refine ACallGS.of (fun h => by cases h) (r := .x (.one (.bool true))) rfl ?_
    simp -implicitDefEqProofs [hi, hrow]
  simp -implicitDefEqProofs [hi, hrow]
  refine ACallGS.of (fun _ => k6) rfl ?_
  cases u
  · rw [if_pos (.inr rfl)] at eQ
    have hF := early 3 (by decide) eQ
    subst hF
    simp -implicitDefEqProofs [hi, hrow]
  rw [if_neg (by simp)] at eQ
  by_cases hlb : 195000 < x.body.length
  · rw [if_pos hlb] at eQ
    have hF := early 2 (by decide) eQ
    subst hF
    have hl' : (195000 < (x.body.length : Int)) = True := eq_true (by omega)
    simp -implicitDefEqProofs [hi, hrow, hl']
  rw [if_neg hlb] at eQ
  have hl' : (195000 < (x.body.length : Int)) = False := eq_false (by omega)
  have order : Q = 0 → F = if badO (lastO l i) x = true then 8 else 0 := by
    intro hq
    rw [hq, if_neg (by simp)] at eF
    exact eF
  by_cases hz : 0 < x.body.length
  · have hz' : (0 < (x.body.length : Int)) = True := eq_true (by omega)
    cases b
    · rw [if_neg (by simp)] at eQ
      have hF := order eQ
      simp -implicitDefEqProofs [hi, hrow, hl', hz', hz]
      refine ACallGS.of (fun _ => k7) rfl ?_
      cases i with
      | zero =>
        rw [show lastO l 0 = none from rfl, show badO none x = false from rfl, if_neg (by decide)] at hF
        subst hF
        have wm : IntKind.i64.wrap (-1) = -1 := rfl
        simp -implicitDefEqProofs [hi, hrow, hz', wm]
      | succ j =>
        rw [show lastO l (j + 1) = some l[j] from lastO_succ l (by omega)] at hF
        have hj : j < l.length := by omega
        obtain ⟨y, ey⟩ : ∃ y, l[j] = y := ⟨_, rfl⟩
        rw [ey] at hF
        have hrow2 : l[j].row = [.str y.addr, .int .i64 y.since, .int .i64 y.status, .str y.typ, .str y.dest, bytesL y.body] := by rw [ey]; rfl
        have ec : ((j + 1 : Nat) : Int) = (j : Int) + 1 := by omega
        have c0 : (0 < (j : Int) + 1) = True := eq_true (by omega)
        have w1 : IntKind.i64.wrap ((j : Int) + 1 - 1) = (j : Int) := by rw [wrapS _ (by omega)]; omega
        have w4 : IntKind.i64.wrap (j : Int) = (j : Int) := wrapS _ (by omega)
        have c2 : ((j : Int) < (l.length : Int)) = True := eq_true (by omega)
        have c3 : (0 ≤ (j : Int)) = True := eq_true (by omega)
        have hB : badO (some y) x = (ltB x.addr y.addr || (x.addr == y.addr && decide (x.since ≤ y.since))) := rfl
        rw [hB] at hF
        cases o1 : ltB x.addr y.addr
        · cases o2 : x.addr == y.addr
          · rw [o1, o2, Bool.false_and, Bool.or_false, if_neg (by decide)] at hF
            subst hF
            simp -implicitDefEqProofs [hi, hrow, hrow2, hj, ec, c0, c2, c3, w1, w4, hz', o1, o2]
          · by_cases o3 : x.since ≤ y.since
            · have o3' : (x.since ≤ y.since) = True := eq_true o3
              rw [o1, o2, decide_eq_true o3, Bool.and_true, Bool.or_true, if_pos rfl] at hF
              subst hF
              simp -implicitDefEqProofs [hi, hrow, hrow2, hj, ec, c0, c2, c3, w1, w4, hz', o1, o2, o3']
            · have o3' : (x.since ≤ y.since) = False := eq_false o3
              rw [o1, o2, decide_eq_false o3, Bool.and_false, Bool.or_false, if_neg (by decide)] at hF
              subst hF
              simp -implicitDefEqProofs [hi, hrow, hrow2, hj, ec, c0, c2, c3, w1, w4, hz', o1, o2, o3']
        · rw [o1, Bool.true_or, if_pos rfl] at hF
          subst hF
          simp -implicitDefEqProofs [hi, hrow, hrow2, hj, ec, c0, c2, c3, w1, w4, hz', o1]
    · rw [if_pos ⟨hz, rfl⟩] at eQ
      have hF := early 3 (by decide) eQ
      subst hF
      simp -implicitDefEqProofs [hi, hrow, hl', hz', hz]
      refine ACallGS.of (fun _ => k7) rfl ?_
      simp -implicitDefEqProofs [hi, hrow, hz']
  · have hz' : (0 < (x.body.length : Int)) = False := eq_false (by omega)
    rw [if_neg (fun h => hz h.1)] at eQ
    have hF := order eQ
    simp -implicitDefEqProofs [hi, hrow, hl', hz', hz]
    refine ACallGS.of (fun h => by cases h) (r := .x (.one (.bool true))) rfl ?_
    cases i with
    | zero =>
      rw [show lastO l 0 = none from rfl, show badO none x = false from rfl, if_neg (by decide)] at hF
      subst hF
      have wm : IntKind.i64.wrap (-1) = -1 := rfl
      simp -implicitDefEqProofs [hi, hrow, hz', wm]
    | succ j =>
      rw [show lastO l (j + 1) = some l[j] from lastO_succ l (by omega)] at hF
      have hj : j < l.length := by omega
      obtain ⟨y, ey⟩ : ∃ y, l[j] = y := ⟨_, rfl⟩
      rw [ey] at hF
      have hrow2 : l[j].row = [.str y.addr, .int .i64 y.since, .int .i64 y.status, .str y.typ, .str y.dest, bytesL y.body] := by rw [ey]; rfl
      have ec : ((j + 1 : Nat) : Int) = (j : Int) + 1 := by omega
      have c0 : (0 < (j : Int) + 1) = True := eq_true (by omega)
      have w1 : IntKind.i64.wrap ((j : Int) + 1 - 1) = (j : Int) := by rw [wrapS _ (by omega)]; omega
      have w4 : IntKind.i64.wrap (j : Int) = (j : Int) := wrapS _ (by omega)
      have c2 : ((j : Int) < (l.length : Int)) = True := eq_true (by omega)
      have c3 : (0 ≤ (j : Int)) = True := eq_true (by omega)
      have hB : badO (some y) x = (ltB x.addr y.addr || (x.addr == y.addr && decide (x.since ≤ y.since))) := rfl
      rw [hB] at hF
      cases o1 : ltB x.addr y.addr
      · cases o2 : x.addr == y.addr
        · rw [o1, o2, Bool.false_and, Bool.or_false, if_neg (by decide)] at hF
          subst hF
          simp -implicitDefEqProofs [hi, hrow, hrow2, hj, ec, c0, c2, c3, w1, w4, hz', o1, o2]
        · by_cases o3 : x.since ≤ y.since
          · have o3' : (x.since ≤ y.since) = True := eq_true o3
            rw [o1, o2, decide_eq_true o3, Bool.and_true, Bool.or_true, if_pos rfl] at hF
            subst hF
            simp -implicitDefEqProofs [hi, hrow, hrow2, hj, ec, c0, c2, c3, w1, w4, hz', o1, o2, o3']
          · have o3' : (x.since ≤ y.since) = False := eq_false o3
            rw [o1, o2, decide_eq_false o3, Bool.and_false, Bool.or_false, if_neg (by decide)] at hF
            subst hF
            simp -implicitDefEqProofs [hi, hrow, hrow2, hj, ec, c0, c2, c3, w1, w4, hz', o1, o2, o3']
      · rw [o1, Bool.true_or, if_pos rfl] at hF
        subst hF
        simp -implicitDefEqProofs [hi, hrow, hrow2, hj, ec, c0, c2, c3, w1, w4, hz', o1]
end Go.Proofs.YtklnopamfncfgaaGreatDoor
namespace Go.Proofs.YtklnopamfncfgaaGreatDoor
open Go Go.Ab
set_option linter.unusedSectionVars false
variable [Amb] [HasPow10 Tryz.prog] [HasErrSyntax Tryz.prog]
set_option maxRecDepth 100000
set_option maxHeartbeats 4000000
theorem ref12_CheckWeb (p : List WPage) (tk : List Took) (hT : ∀ x ∈ tk, x.host.length ≤ 300000000000000) : ACalls Tryz.prog 19 [.agg (webCs p tk)] (.x (.one (.int .i64 (webF p tk)))) := by
  obtain ⟨F, eF⟩ : ∃ F, F = webF p tk := ⟨_, rfl⟩
  rw [← eF]
  unfold webF at eF
  unfold webCs
  refine ACalls.of mixed (fn := Tryz.f19) (by kernel_rfl) (by kernel_rfl) rfl (by kernel_rfl) (by simp [Tryz.f19]) (fun hok => ?_)
  by_cases h1 : 300 < p.length
  · have h1' : (300 < (p.length : Int)) = True := eq_true (by omega)
    rw [if_pos h1] at eF
    subst eF
    simp -implicitDefEqProofs [h1']
  have h1' : (300 < (p.length : Int)) = False := eq_false (by omega)
  rw [if_neg h1] at eF
  simp -implicitDefEqProofs [h1']
  refine ALoopS.of Nat (fun i => [(1, .box [pagesL p, tooksL tk]), (13, .x (.one (.int .i64 p.length))), (14, .x (.one (.int .i64 i)))]) (fun i => i ≤ p.length ∧ pagesG none p = pagesG (lastO p i) (p.drop i)) (fun i => p.length - i) 0 ⟨Nat.zero_le _, rfl⟩ ?_ ?_
  · simp
  rintro i ⟨hi, hG⟩
  by_cases hlt : i < p.length
  · have hlt' : ((i : Int) < (p.length : Int)) = True := eq_true (by omega)
    have hwr : IntKind.i64.wrap ((i : Int) + 1) = (i : Int) + 1 := wrapS _ (by omega)
    rw [List.drop_eq_getElem_cons hlt, pagesG] at hG
    have k1 := ref12_checkPage p i hlt (by omega)
    obtain ⟨f, ef⟩ : ∃ f, f = page12F p i p[i] := ⟨_, rfl⟩
    rw [← ef] at k1
    unfold page12F at ef
    simp -implicitDefEqProofs [hlt, hlt']
    refine ACallK.of k1 ?_
    by_cases hf : f = 0
    rotate_left
    · have hP : pagesG none p = f := by
        rw [hG]
        by_cases hp : pageF p[i] ≠ 0
        · rw [if_pos hp] at ef ⊢; exact ef.symm
        · rw [if_neg hp] at ef ⊢
          split at ef
          · rename_i hb; rw [if_pos hb]; exact ef.symm
          · exact absurd ef hf
      have eF2 : F = f := by rw [eF, hP, if_pos hf]
      have hb : (f == 0) = false := by simpa using hf
      simp -implicitDefEqProofs [hb, hf, eF2]
    have hG2 : pagesG none p = pagesG (lastO p (i + 1)) (p.drop (i + 1)) := by
      rw [hG, lastO_succ p hlt]
      by_cases hp : pageF p[i] ≠ 0
      · rw [if_pos hp] at ef; exact absurd (ef.symm.trans hf) hp
      · rw [if_neg hp] at ef ⊢
        split at ef
        · rw [ef] at hf; cases hf
        · rename_i hb; rw [if_neg hb]
    subst hf
    simp -implicitDefEqProofs [hlt, hlt']
    exact Again.of (i + 1) ⟨hlt, hG2⟩ (by omega) (by simp [hwr])
  have hlt' : ((i : Int) < (p.length : Int)) = False := eq_false (by omega)
  have hG0 : pagesG none p = 0 := by
    rw [hG, List.drop_of_length_le (by omega)]
    cases lastO p i <;> rfl
  rw [hG0, if_neg (by simp)] at eF
  by_cases h2 : 300 < tk.length
  · have h2' : (300 < (tk.length : Int)) = True := eq_true (by omega)
    rw [if_pos h2] at eF
    subst eF
    simp -implicitDefEqProofs [hlt', h2']
  have h2' : (300 < (tk.length : Int)) = False := eq_false (by omega)
  rw [if_neg h2] at eF
  simp -implicitDefEqProofs [hlt', h2']
  refine ALoopS.of Nat (fun i => [(1, .box [pagesL p, tooksL tk]), (30, .x (.one (tooksL tk))), (31, .x (.one (.int .i64 tk.length))), (32, .x (.one (.int .i64 i)))]) (fun i => i ≤ tk.length ∧ F = tooksG (lastO tk i) (tk.drop i)) (fun i => tk.length - i) 0 ⟨Nat.zero_le _, eF⟩ ?_ ?_
  · simp
  rintro i ⟨hi, hG⟩
  by_cases hlt : i < tk.length
  · have hlt' : ((i : Int) < (tk.length : Int)) = True := eq_true (by omega)
    have hwr : IntKind.i64.wrap ((i : Int) + 1) = (i : Int) + 1 := wrapS _ (by omega)
    rw [List.drop_eq_getElem_cons hlt, tooksG] at hG
    have hrow : tk[i].row = [.str tk[i].host, .int .i64 tk[i].secs] := rfl
    have k1 := ref12_isHost tk[i].host (hT _ (List.getElem_mem hlt))
    have ef : tookF tk[i] = if isHostB tk[i].host = false then 5 else if inB 0 1000000 tk[i].secs = false then 1 else 0 := rfl
    generalize isHostB tk[i].host = H at k1 ef
    simp -implicitDefEqProofs [hlt, hlt', hrow]
    refine ACallK.of k1 ?_
    cases H
    · rw [if_pos rfl] at ef
      rw [ef, if_pos (by decide)] at hG
      subst hG
      simp -implicitDefEqProofs
    rw [if_neg (by decide)] at ef
    unfold inB at ef
    by_cases c1 : tk[i].secs < 0
    · have c1' : (tk[i].secs < 0) = True := eq_true c1
      rw [decide_eq_false (by omega : ¬ 0 ≤ tk[i].secs), Bool.false_and, if_pos rfl] at ef
      rw [ef, if_pos (by decide)] at hG
      subst hG
      simp -implicitDefEqProofs [hlt, hlt', hrow, c1']
    have c1' : (tk[i].secs < 0) = False := eq_false c1
    by_cases c2 : 1000000 < tk[i].secs
    · have c2' : (1000000 < tk[i].secs) = True := eq_true c2
      rw [decide_eq_true (by omega : 0 ≤ tk[i].secs), decide_eq_false (by omega : ¬ tk[i].secs ≤ 1000000), Bool.and_false, if_pos rfl] at ef
      rw [ef, if_pos (by decide)] at hG
      subst hG
      simp -implicitDefEqProofs [hlt, hlt', hrow, c1', c2']
    have c2' : (1000000 < tk[i].secs) = False := eq_false c2
    rw [decide_eq_true (by omega : 0 ≤ tk[i].secs), decide_eq_true (by omega : tk[i].secs ≤ 1000000), Bool.and_true, if_neg (by decide)] at ef
    rw [ef, if_neg (by decide)] at hG
    cases i with
    | zero =>
      rw [lastO_zero] at hG
      have wm : IntKind.i64.wrap (-1) = -1 := rfl
      have hG2 : F = tooksG (lastO tk 1) (tk.drop 1) := by
        rw [hG, lastO_succ tk hlt]; rfl
      simp -implicitDefEqProofs [hlt, hlt', hrow, wm, c1', c2']
      exact Again.of 1 ⟨by omega, hG2⟩ (by omega) (by simp [show IntKind.i64.wrap 1 = 1 from rfl])
    | succ j =>
      have hj : j < tk.length := by omega
      rw [lastO_succ tk hj] at hG
      have ec : ((j + 1 : Nat) : Int) = (j : Int) + 1 := by omega
      have c0 : (0 < (j : Int) + 1) = True := eq_true (by omega)
      have w1 : IntKind.i64.wrap ((j : Int) + 1 - 1) = (j : Int) := by rw [wrapS _ (by omega)]; omega
      have w4 : IntKind.i64.wrap (j : Int) = (j : Int) := wrapS _ (by omega)
      have d2 : ((j : Int) < (tk.length : Int)) = True := eq_true (by omega)
      have d3 : (0 ≤ (j : Int)) = True := eq_true (by omega)
      have hrow2 : tk[j].row = [.str tk[j].host, .int .i64 tk[j].secs] := rfl
      have e4 : badT (some tk[j]) tk[j + 1] = (ltB tk[j + 1].host tk[j].host || tk[j + 1].host == tk[j].host) := rfl
      rw [e4] at hG
      rw [ec] at hlt' hwr
      generalize hO : (ltB tk[j + 1].host tk[j].host || tk[j + 1].host == tk[j].host) = O at hG
      cases O
      · rw [if_neg (by decide)] at hG
        simp -implicitDefEqProofs [hlt, hlt', hrow, hrow2, hj, ec, c0, w1, d2, d3, w4, hO, hwr, c1', c2']
        exact Again.of (j + 1 + 1) ⟨by omega, by rw [lastO_succ tk hlt]; exact hG⟩ (by omega) (by simp [hwr])
      · rw [if_pos rfl] at hG
        subst hG
        simp -implicitDefEqProofs [hlt, hlt', hrow, hrow2, hj, ec, c0, w1, d2, d3, w4, hO, c1', c2']
  · have hlt' : ((i : Int) < (tk.length : Int)) = False := eq_false (by omega)
    have hF : F = 0 := by
      rw [hG, List.drop_of_length_le (by omega)]
      cases lastO tk i <;> rfl
    subst hF
    simp -implicitDefEqProofs [hlt']
end Go.Proofs.YtklnopamfncfgaaGreatDoor
