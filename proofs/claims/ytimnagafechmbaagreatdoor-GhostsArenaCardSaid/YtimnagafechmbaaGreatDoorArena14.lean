/- The refs that are held; what holds of the memory between the turns of the loop. Conditions: those that each theorem names, and no others. -/
import Derived.Test.YtimnagafechmbaaGreatDoorArena13
namespace Go.Proofs.YtimnagafechmbaaGreatDoor.ghostsArena
open Go Go.Mini
/-! ### the row of refs that are held -/
theorem uRs : Tryz.prog.underlying 56 = some (.slice 35) := by kernel_rfl
theorem zRf : sizeA Tryz.prog 35 = some 3 := by kernel_rfl
theorem aRf : isAggA Tryz.prog 35 = some true := by kernel_rfl
theorem rowRf : rowT Tryz.prog 56 56 3 = true := by kernel_rfl
theorem rows_app {α : Type} (f : α → List AV) (a b : List α) : rowsOf f (a ++ b) = rowsOf f a ++ rowsOf f b := by simp [rowsOf]
theorem rows_len {α : Type} {f : α → List AV} {n : Nat} (hf : ∀ x, (f x).length = n) : ∀ l : List α, (rowsOf f l).length = l.length * n
  | [] => by simp [rowsOf]
  | x :: l => by
    show (f x ++ rowsOf f l).length = _
    rw [List.length_append, hf, rows_len hf l, List.length_cons, Nat.add_mul, Nat.one_mul, Nat.add_comm]
theorem rows_one {α : Type} {f : α → List AV} (hf : ∀ x, (f x).all AV.one = true) : ∀ l : List α, (rowsOf f l).all AV.one = true
  | [] => rfl
  | x :: l => by
    show (f x ++ rowsOf f l).all AV.one = true
    rw [List.all_append, hf, rows_one hf l]
    rfl
theorem rk3 (x : Int × Nat) : (rk x).length = 3 := rfl
theorem rk_one (x : Int × Nat) : (rk x).all AV.one = true := rfl
theorem rk_nm (p : Nat → Bool) (l : List (Int × Nat)) : namess p (rowsOf rk l) = true := names_rows (fun _ => rfl) l
/-- The row lies in block b; x is its slice. -/
def HV (l : List (Int × Nat)) (b : Nat) (x : AV) (o : AObj) : Prop :=
  (l = [] ∧ x = .nilSlice ∧ o = ph) ∨ ∃ r, o = .cells false (rowsOf rk (l ++ r)) ∧ ((l ≠ [] ∧ r = [] ∧ x = .osl b 0 l.length 3) ∨ x = .slice b 0 l.length l.length)
theorem HV.obj {l : List (Int × Nat)} {b : Nat} {x : AV} {o : AObj} (h : HV l b x o) : o.rw = true ∧ ∀ p, o.names p = true := by
  rcases h with ⟨_, _, rfl⟩ | ⟨r, rfl, _⟩
  · exact ⟨rfl, fun _ => rfl⟩
  · exact ⟨rfl, fun p => rk_nm p _⟩
theorem HV.oren {l : List (Int × Nat)} {b : Nat} {x : AV} {o : AObj} (h : HV l b x o) (π : Nat → Nat) : o.ren π = o := by
  rcases h with ⟨_, _, rfl⟩ | ⟨r, rfl, _⟩
  · rfl
  · show AObj.cells false (rens π _) = _
    rw [rens_no (rk_nm _ _)]
theorem HV.nm {l : List (Int × Nat)} {b : Nat} {x : AV} {o : AObj} (h : HV l b x o) {p : Nat → Bool} (hp : p b = true) : x.names p = true := by
  rcases h with ⟨_, rfl, _⟩ | ⟨r, _, ⟨_, _, rfl⟩ | rfl⟩
  · rfl
  · exact hp
  · exact hp
theorem HV.na {l : List (Int × Nat)} {b : Nat} {x : AV} {o : AObj} (h : HV l b x o) : Mini.isAgg x = false := by
  rcases h with ⟨_, rfl, _⟩ | ⟨r, _, ⟨_, _, rfl⟩ | rfl⟩ <;> rfl
theorem HV.len {l : List (Int × Nat)} {b : Nat} {x : AV} {o : AObj} (h : HV l b x o) (s : AS) : lenA Tryz.prog s 56 x = some (.int .i64 (Int.ofNat l.length)) := by
  rcases h with ⟨rfl, rfl, _⟩ | ⟨r, _, ⟨_, _, rfl⟩ | rfl⟩ <;> simp only [lenA, uRs] <;> rfl
section
variable {l : List (Int × Nat)} {b : Nat} {x : AV} {o : AObj} (h : HV l b x o) {c : Nat} (hc : c < l.length)
include h hc
theorem HV.idx : indexAddrA Tryz.prog 56 x (.int .i64 (Int.ofNat c)) = some (.ptr b (0 + c * 3)) := by
  rcases h with ⟨rfl, _, _⟩ | ⟨r, _, ⟨_, _, rfl⟩ | rfl⟩
  · simp at hc
  · have h0 : (0 : Int) ≤ Int.ofNat c ∧ Int.ofNat c < (l.length : Int) := by simp only [Int.ofNat_eq_natCast]; omega
    simp only [indexAddrA, uRs, zRf]
    rw [if_pos h0]
    rfl
  · exact idx_slice uRs zRf hc
theorem HV.ld {s : AS} (hs : s.get b = some o) : loadA Tryz.prog s 35 (.ptr b (0 + c * 3)) = some (.agg (rk l[c])) := by
  rcases h with ⟨rfl, _, _⟩ | ⟨r, rfl, _⟩
  · simp at hc
  · rw [Nat.zero_add]
    exact ld_row (f := rk) (n := 3) rk3 aRf zRf hs (by rw [List.getElem?_append_left hc, List.getElem?_eq_getElem hc])
theorem HV.sl1 : sliceA Tryz.prog 56 x none (some (.int .i64 (Int.ofNat c))) (some (.int .i64 (Int.ofNat c))) = some (.slice b (0 + 0 * 3) (c - 0) (c - 0)) := by
  have h1 : boundA (some (.int .i64 (Int.ofNat c))) 0 l.length = some c := by
    have h0 : (0 : Int) ≤ Int.ofNat c ∧ Int.ofNat c ≤ (l.length : Int) := by simp only [Int.ofNat_eq_natCast]; omega
    simp only [boundA]
    rw [if_pos h0]
    rfl
  have h1' : boundA (some (.int .i64 (Int.ofNat c))) l.length l.length = some c := by
    have h0 : (0 : Int) ≤ Int.ofNat c ∧ Int.ofNat c ≤ (l.length : Int) := by simp only [Int.ofNat_eq_natCast]; omega
    simp only [boundA]
    rw [if_pos h0]
    rfl
  have h2 : boundA (some (.int .i64 (Int.ofNat c))) 0 c = some c := by
    have h0 : (0 : Int) ≤ Int.ofNat c ∧ Int.ofNat c ≤ (c : Int) := by simp only [Int.ofNat_eq_natCast]; omega
    simp only [boundA]
    rw [if_pos h0]
    rfl
  have h2' : boundA (some (.int .i64 (Int.ofNat c))) l.length c = some c := by
    have h0 : (0 : Int) ≤ Int.ofNat c ∧ Int.ofNat c ≤ (c : Int) := by simp only [Int.ofNat_eq_natCast]; omega
    simp only [boundA]
    rw [if_pos h0]
    rfl
  have h3 : boundA none 0 c = some 0 := rfl
  rcases h with ⟨rfl, _, _⟩ | ⟨r, _, ⟨_, _, rfl⟩ | rfl⟩
  · simp at hc
  · simp only [sliceA, uRs, zRf, h1, h2, h3]
  · simp only [sliceA, uRs, zRf, h1', h2', h3]
    rfl
/-- What is behind the one that goes. -/
theorem HV.sl2 : ∃ y, sliceA Tryz.prog 56 x (some (.int .i64 (Int.ofNat (c + 1)))) none none = some y ∧ sliceLen y = some (l.length - (c + 1)) ∧ ∀ s : AS, s.get b = some o → firstA s 3 (l.length - (c + 1)) y = some (rowsOf rk (l.drop (c + 1))) := by
  have h1 : boundA (some (.int .i64 (Int.ofNat (c + 1)))) 0 l.length = some (c + 1) := by
    have h0 : (0 : Int) ≤ Int.ofNat (c + 1) ∧ Int.ofNat (c + 1) ≤ (l.length : Int) := by simp only [Int.ofNat_eq_natCast]; omega
    simp only [boundA]
    rw [if_pos h0]
    rfl
  have h2 : ∀ n m, boundA none n m = some n := fun _ _ => rfl
  have hz : Nat.beq 3 3 = true := rfl
  have rd : ∀ r, o = .cells false (rowsOf rk (l ++ r)) → ∀ s : AS, s.get b = some o → readA s b (0 + (c + 1) * 3) ((l.length - (c + 1)) * 3) = some (rowsOf rk (l.drop (c + 1))) := by
    intro r ho s hs
    subst ho
    have e : rowsOf rk (l ++ r) = rowsOf rk (l.take (c + 1)) ++ (rowsOf rk (l.drop (c + 1)) ++ rowsOf rk r) := by
      rw [← rows_app, ← rows_app, ← List.append_assoc, List.take_append_drop]
    have hl : (0 + (c + 1) * 3) = (rowsOf rk (l.take (c + 1))).length := by
      rw [rows_len rk3, List.length_take, Nat.min_eq_left (by omega), Nat.zero_add]
    simp only [readA, hs]
    rw [e, hl, List.drop_left]
    exact takeN_row (by rw [rows_len rk3, List.length_drop])
  rcases h with ⟨rfl, _, _⟩ | ⟨r, ho, ⟨_, _, rfl⟩ | rfl⟩
  · simp at hc
  · exact ⟨.osl b (0 + (c + 1) * 3) (l.length - (c + 1)) 3, by simp only [sliceA, uRs, zRf, h1, h2, hz, if_true], rfl, rd r ho⟩
  · exact ⟨.slice b (0 + (c + 1) * 3) (l.length - (c + 1)) (l.length - (c + 1)), by simp only [sliceA, uRs, zRf, h1, h2]; rfl, rfl, rd r ho⟩
omit h hc in
/-- The last one goes. -/
theorem HV.cut {s : AS} {y : AV} (_ : s.get b = some o) (hy : sliceLen y = some (l.length - (c + 1))) (hf : firstA s 3 (l.length - (c + 1)) y = some (rowsOf rk (l.drop (c + 1)))) (hl : c + 1 = l.length) :
    appendA Tryz.prog s 56 56 (.slice b (0 + 0 * 3) (c - 0) (c - 0)) y = some (.slice b (0 + 0 * 3) (c - 0) (c - 0), s) := by
  obtain ⟨elem, e2, i, z, size, u1, u2, u3, u4, u5, u8, u6, u7⟩ := rowT_inv rowRf
  have e3 : size + 1 = 3 := u8
  have e0 : l.length - (c + 1) = 0 := by omega
  rw [e0] at hy hf
  rw [← e3] at hf
  have hone : (rowsOf rk (l.drop (c + 1))).all AV.one = true := rows_one rk_one _
  have hb : Nat.ble (c - 0 + 0) (c - 0) = true := Nat.ble_eq_true_of_le (by omega)
  have h0 : Nat.beq 0 0 = true := rfl
  simp only [appendA, u1, u3, u4, u5, hy, u6, u7, hf, hone, hb, h0, Bool.and_self, Bool.not_true, Bool.false_eq_true, if_false, if_true]
/-- Another one goes: a new row. -/
theorem HV.del {s : AS} {y : AV} (hs : s.get b = some o) (hy : sliceLen y = some (l.length - (c + 1))) (hf : firstA s 3 (l.length - (c + 1)) y = some (rowsOf rk (l.drop (c + 1)))) (hl : c + 1 < l.length) (hk : l.length < 1000000) :
    appendA Tryz.prog s 56 56 (.slice b (0 + 0 * 3) (c - 0) (c - 0)) y = some (.osl s.nx 0 (l.length - 1) 3, s.push (.cells false (rowsOf rk (l.take c ++ l.drop (c + 1))))) := by
  obtain ⟨elem, e2, i, z, size, u1, u2, u3, u4, u5, u8, u6, u7⟩ := rowT_inv rowRf
  have e3 : size + 1 = 3 := u8
  have hone : (rowsOf rk (l.drop (c + 1))).all AV.one = true := rows_one rk_one _
  have hone2 : (rowsOf rk (l.take c)).all AV.one = true := rows_one rk_one _
  have hb : Nat.ble (c - 0 + (l.length - (c + 1))) (c - 0) = false := by
    rw [Bool.eq_false_iff]
    intro hh
    have := Nat.le_of_ble_eq_true hh
    omega
  have hsm : small (c - 0 + (l.length - (c + 1))) = true := Nat.ble_eq_true_of_le (by omega)
  have hrd : readA s b (0 + 0 * 3) ((c - 0) * 3) = some (rowsOf rk (l.take c)) := by
    rcases h with ⟨rfl, _, _⟩ | ⟨r, rfl, _⟩
    · simp at hc
    · have e : rowsOf rk (l ++ r) = rowsOf rk (l.take c) ++ (rowsOf rk (l.drop c) ++ rowsOf rk r) := by
        rw [← rows_app, ← rows_app, ← List.append_assoc, List.take_append_drop]
      simp only [readA, hs]
      rw [e]
      show takeN ((c - 0) * 3) (rowsOf rk (l.take c) ++ _) = _
      exact takeN_row (by rw [rows_len rk3, List.length_take, Nat.min_eq_left (by omega), Nat.sub_zero])
  have e1 : c - 0 + (l.length - (c + 1)) = l.length - 1 := by omega
  have hf' : firstA s (size + 1) (l.length - (c + 1)) y = some (rowsOf rk (l.drop (c + 1))) := by rw [e3]; exact hf
  have hrd' : readA s b (0 + 0 * 3) ((c - 0) * (size + 1)) = some (rowsOf rk (l.take c)) := by rw [e3]; exact hrd
  simp only [appendA, u1, u3, u4, u5, hy, u6, u7, hf', hone, hb, hsm, hrd', hone2, Bool.and_self, Bool.not_true, Bool.false_eq_true, if_false, if_true]
  rw [e1, e3, ← rows_app]
end
/-- One more, behind the others: the row that is to come. -/
theorem HV.more {l : List (Int × Nat)} {b : Nat} {x : AV} {o : AObj} (h : HV l b x o) {s : AS} (hs : s.get b = some o) {b2 c2 : Nat} {ro : Bool} {y : Int × Nat} (h2 : s.get b2 = some (.cells ro (rk y))) (hk : l.length < 1000000) :
    ((∃ r, x = .osl b 0 l.length 3 ∧ o = .cells false r) ∧ l ≠ [] ∧ appendA Tryz.prog s 56 56 x (.slice b2 0 1 c2) = some (.osl s.nx 0 (l.length + 1) 3, (s.set b .dead).push (.cells false (rowsOf rk (l ++ [y]))))) ∨
    appendA Tryz.prog s 56 56 x (.slice b2 0 1 c2) = some (.osl s.nx 0 (l.length + 1) 3, s.push (.cells false (rowsOf rk (l ++ [y])))) := by
  have er : rowsOf rk [y] = rk y := by simp [rowsOf]
  rcases h with ⟨rfl, rfl, rfl⟩ | ⟨r, rfl, ⟨hne, rfl, rfl⟩ | rfl⟩
  · refine .inr ?_
    rw [app_nil rowRf h2 (rk3 y) (rk_one y), List.nil_append, er]
    rfl
  · refine .inl ⟨⟨_, rfl, rfl⟩, hne, ?_⟩
    rw [List.append_nil] at hs
    rw [app_osl rowRf hs (rows_len rk3 _) (rows_one rk_one _) h2 (rk3 y) (rk_one y) (by omega), rows_app, er]
  · refine .inr ?_
    obtain ⟨elem, e2, i, z, size, u1, u2, u3, u4, u5, u8, u6, u7⟩ := rowT_inv rowRf
    have e3 : size + 1 = 3 := u8
    have hf : firstA s (size + 1) 1 (.slice b2 0 1 c2) = some (rk y) := by
      simp only [firstA, readA, h2, List.drop_zero, Nat.one_mul]
      exact takeN_all ((rk3 y).trans e3.symm)
    have hb : Nat.ble (l.length + 1) l.length = false := by
      rw [Bool.eq_false_iff]
      intro hh
      have := Nat.le_of_ble_eq_true hh
      omega
    have hsm : small (l.length + 1) = true := Nat.ble_eq_true_of_le (by omega)
    have hone2 : (rowsOf rk l).all AV.one = true := rows_one rk_one _
    have hrd : readA s b 0 (l.length * (size + 1)) = some (rowsOf rk l) := by
      simp only [readA, hs]
      rw [rows_app, List.drop_zero, e3]
      exact takeN_row (rows_len rk3 _)
    simp only [appendA, u1, u3, u4, u5, sliceLen, u6, u7, hf, rk_one y, hb, hsm, hrd, hone2, Bool.and_self, Bool.not_true, Bool.false_eq_true, if_false, if_true]
    rw [rows_app, er, e3]
/-! ### what holds of the memory, between the turns of the law's loop -/
def Chain (ms : MS) : Int → List Int → Prop
  | s, [] => s < 0
  | s, z :: t => s = z ∧ Chain ms (slI (getW ms (aL z 2))) t
theorem Chain.congr {ms ms' : MS} : ∀ {l : List Int} {s : Int}, (∀ z ∈ l, getW ms' (aL z 2) = getW ms (aL z 2)) → Chain ms s l → Chain ms' s l
  | [], _, _, h => h
  | z :: t, s, he, h => ⟨h.1, by rw [he z (by simp)]; exact Chain.congr (fun y hy => he y (by simp [hy])) h.2⟩
structure LI (M : PM) (mo : Nat) (held : List (Int × Nat)) (fl : List Int) (i : Nat) : Prop where
  lt : Lt M
  mo4 : mo < 4
  sg : getW M.ms aSg ≠ 2
  pk : getW M.ms aPk ≤ i
  ch : Chain M.ms (slI (getW M.ms aF)) fl
  nd : fl.Nodup
  fr : ∀ z ∈ fl, (0 ≤ z ∧ z < 8) ∧ ∃ g, g ≤ mo ∧ getW M.ms (aL z 0) = mkw 0 g
  hl : ∀ x ∈ held, (0 ≤ x.1 ∧ x.1 < 8) ∧ x.2 ≤ mo ∧ getW M.ms (aL x.1 0) = mkw 1 x.2
  hn : (held.map (·.1)).Nodup
  hk : held.length ≤ i
theorem LI.of_ms {M M' : PM} {mo : Nat} {held : List (Int × Nat)} {fl : List Int} {i i' : Nat} (h : LI M mo held fl i) (hm : M'.ms = M.ms) (hi : i ≤ i') : LI M' mo held fl i' := by
  obtain ⟨h1, h2, h3, h4, h5, h6, h7, h8, h9, h10⟩ := h
  unfold Lt at h1
  rw [← hm] at h1 h3 h4 h5 h7 h8
  exact ⟨h1, h2, h3, by omega, h5, h6, h7, h8, h9, by omega⟩
section
variable (M : PM) (z : Int) (g : Nat)
def mA1 : PM := M.load aF
def mA2 : PM := (mA1 M).load (aL z 2)
def mA3 : PM := (mA2 M z).cas aF (getW M.ms aF) (hdN (slI (getW M.ms (aL z 2))) (tgN (getW M.ms aF) + 1))
def mA4 : PM := (mA3 M z).load aSg
def mA5 : PM := (mA4 M z).load aEra
def mA6 : PM := (mA5 M z).store (aL z 1) (getW M.ms aEra)
def mA7 : PM := (mA6 M z).load (aL z 0)
def mA8 : PM := (mA7 M z).store (aL z 0) (mkw 1 g)
end
/-- A slot that comes next, in a memory. -/
structure NewIn (M : PM) (z : Int) (g mo : Nat) : Prop where
  lt : Lt M
  hz : 0 ≤ z ∧ z < 8
  top : slI (getW M.ms aF) = z
  hd : getW M.ms (aL z 0) = mkw 0 g
  hg : g ≤ mo
  hm : mo < 4294967295
  sg : getW M.ms aSg ≠ 2
section
variable {M : PM} {z : Int} {g mo : Nat} (H : NewIn M z g mo)
include H
omit H in
theorem gA3 (b : A3) : getW (mA3 M z).ms b = if b = aF then hdN (slI (getW M.ms (aL z 2))) (tgN (getW M.ms aF) + 1) else getW M.ms b := get_cas (M := mA2 M z) mayF rfl b
theorem gA6 (b : A3) : getW (mA6 M z).ms b = if b = aL z 1 then getW M.ms aEra else getW (mA3 M z).ms b := get_store (M := mA5 M z) (mayL H.hz ⟨by omega, by omega⟩) b
theorem gA8 (b : A3) : getW (mA8 M z g).ms b = if b = aL z 0 then mkw 1 g else getW (mA6 M z).ms b := get_store (M := mA7 M z) (mayL H.hz ⟨by omega, by omega⟩) b
omit H in
theorem A4_sg : getW (mA3 M z).ms aSg = getW M.ms aSg := by rw [gA3, if_neg (by decide)]
omit H in
theorem A5_era : getW (mA4 M z).ms aEra = getW M.ms aEra := by
  show getW (mA3 M z).ms aEra = _
  rw [gA3, if_neg (by decide)]
theorem A7_0 : getW (mA7 M z).ms (aL z 0) = mkw 0 g := by
  show getW (mA6 M z).ms _ = _
  rw [gA6 H, if_neg (aL_f (by omega)), gA3, if_neg (fun e => aFL z 0 e.symm), H.hd]
theorem la1 : Lt (mA1 M) := H.lt
theorem la2 : Lt (mA2 M z) := H.lt
theorem la3 : Lt (mA3 M z) := (la2 H).cas _ _ (hdN_lt _ _)
theorem la4 : Lt (mA4 M z) := la3 H
theorem la5 : Lt (mA5 M z) := la3 H
theorem la6 : Lt (mA6 M z) := (la5 H).store _ (H.lt _)
theorem la7 : Lt (mA7 M z) := la6 H
theorem la8 : Lt (mA8 M z g) := (la7 H).store _ (mkw_l (by omega) H.hg H.hm)
theorem wa1 : Lw (mA1 M) := H.lt.wload _
theorem wa2 : Lw (mA2 M z) := H.lt.wload _
theorem wa3 : Lw (mA3 M z) := (la2 H).wcas _ _ (hdN_lt _ _)
theorem wa4 : Lw (mA4 M z) := (la3 H).wload _
theorem wa5 : Lw (mA5 M z) := (la4 H).wload _
theorem wa6 : Lw (mA6 M z) := (la5 H).wstore _ (H.lt _)
theorem wa7 : Lw (mA7 M z) := (la6 H).wload _
theorem wa8 : Lw (mA8 M z g) := (la7 H).wstore _ (mkw_l (by omega) H.hg H.hm)
omit H in
theorem fa1 (x y : Bool) : stF (acM (mA1 M)) mo x y = 0 := st_load _ _ _ _ _
omit H in
theorem fa2 (x y : Bool) : stF (acM (mA2 M z)) mo x y = 0 := st_load _ _ _ _ _
omit H in
theorem fa3 (x y : Bool) : stF (acM (mA3 M z)) mo x y = 0 := st_casF _ _ _ _ _ _
omit H in
theorem fa4 (x y : Bool) : stF (acM (mA4 M z)) mo x y = 0 := st_load _ _ _ _ _
omit H in
theorem fa5 (x y : Bool) : stF (acM (mA5 M z)) mo x y = 0 := st_load _ _ _ _ _
omit H in
theorem fa6 (x y : Bool) : stF (acM (mA6 M z)) mo x y = 0 := st_field _ _ _ _ (by omega) _ _ _
omit H in
theorem fa7 (x y : Bool) : stF (acM (mA7 M z)) mo x y = 0 := st_load _ _ _ _ _
theorem fa8 (x y : Bool) : stF (acM (mA8 M z g)) mo x y = 0 := by
  have hm := H.hm
  have := H.hg
  unfold mA8
  rw [st_head H.hz (A7_0 H) (mkw_ne (by omega) (by omega) (by omega) (by omega) (by omega)), of_01 H.hg (by omega)]
  simp
end
section
variable {M : PM} {mo : Nat} {held : List (Int × Nat)} {fl : List Int} {i : Nat} (h : LI M mo held fl i)
include h
theorem LI.none (hf : fl = []) : slI (getW M.ms aF) < 0 := by
  have := h.ch
  rw [hf] at this
  exact this
theorem LI.new {z : Int} {t : List Int} (hf : fl = z :: t) : ∃ g, NewIn M z g mo := by
  obtain ⟨hz, g, hg, hw⟩ := h.fr z (by rw [hf]; simp)
  have hc := h.ch
  rw [hf] at hc
  exact ⟨g, h.lt, hz, hc.1, hw, hg, by have := h.mo4; omega, h.sg⟩
theorem LI.alloc {z : Int} {t : List Int} {g : Nat} (hf : fl = z :: t) (H : NewIn M z g mo) : LI (mA8 M z g) mo (held ++ [(z, g)]) t (i + 1) := by
  have hc := h.ch
  have hnd := h.nd
  rw [hf] at hc hnd
  obtain ⟨hz1, hnd⟩ := List.nodup_cons.1 hnd
  have oth : ∀ b : A3, b ≠ aL z 0 → b ≠ aL z 1 → b ≠ aF → getW (mA8 M z g).ms b = getW M.ms b := fun b h1 h2 h3 => by
    rw [gA8 H, if_neg h1, gA6 H, if_neg h2, gA3, if_neg h3]
  have hF : getW (mA8 M z g).ms aF = hdN (slI (getW M.ms (aL z 2))) (tgN (getW M.ms aF) + 1) := by
    rw [gA8 H, if_neg (aFL z 0), gA6 H, if_neg (aFL z 1), gA3, if_pos rfl]
  refine ⟨la8 H, h.mo4, ?_, ?_, ?_, hnd, ?_, ?_, ?_, ?_⟩
  · rw [oth _ (aSgL z 0) (aSgL z 1) (by decide)]; exact h.sg
  · rw [oth _ (aPkL z 0) (aPkL z 1) (by decide)]; have := h.pk; omega
  · rw [hF, slI_hdN _ _ (slI_or _)]
    exact Chain.congr (fun y hy => oth _ (aL_f (by omega)) (aL_f (by omega)) (fun e => aFL y 2 e.symm)) hc.2
  · intro y hy
    obtain ⟨a1, a2, a3, a4⟩ := h.fr y (by rw [hf]; simp [hy])
    have hne : y ≠ z := fun e => hz1 (e ▸ hy)
    exact ⟨a1, a2, a3, by rw [oth _ (aL_z hne) (aL_z hne) (fun e => aFL y 0 e.symm)]; exact a4⟩
  · intro x hx
    rcases List.mem_append.1 hx with hx | hx
    · obtain ⟨a1, a2, a3⟩ := h.hl x hx
      have hne : x.1 ≠ z := fun e => by
        rw [e, H.hd] at a3
        exact mkw_ne (s := 0) (t := 1) (by omega) (by omega) (by have := H.hg; have := H.hm; omega) (by have := H.hm; omega) (by omega) a3
      exact ⟨a1, a2, by rw [oth _ (aL_z hne) (aL_z hne) (fun e => aFL x.1 0 e.symm)]; exact a3⟩
    · rw [List.mem_singleton.1 hx]
      exact ⟨H.hz, H.hg, by rw [gA8 H, if_pos rfl]⟩
  · rw [List.map_append, List.nodup_append]
    refine ⟨h.hn, by simp, fun a ha b hb => ?_⟩
    obtain ⟨x, hx, rfl⟩ := List.mem_map.1 ha
    have hb : b = z := by simpa using hb
    subst hb
    intro e
    have a3 := (h.hl x hx).2.2
    rw [e, H.hd] at a3
    exact mkw_ne (s := 0) (t := 1) (by omega) (by omega) (by have := H.hg; have := H.hm; omega) (by have := (h.hl x hx).2.1; have := H.hm; omega) (by omega) a3
  · rw [List.length_append, List.length_singleton]
    have := h.hk
    omega
theorem LI.old {x : Int × Nat} (hx : x ∈ held) (hi : i < 1000000) : FreeIn M x.1 x.2 mo := by
  obtain ⟨a1, a2, a3⟩ := h.hl x hx
  exact ⟨h.lt, a1, a3, a2, by have := h.mo4; omega, h.sg, by have := h.pk; omega⟩
theorem LI.free {c : Nat} (hc : c < held.length) (hi : i < 1000000) : ∃ fl', LI (fM M held[c].1 held[c].2 mo) mo (held.take c ++ held.drop (c + 1)) fl' (i + 1) := by
  have hx := List.getElem_mem hc
  have H := h.old hx hi
  generalize hxe : held[c] = x at H hx ⊢
  obtain ⟨z, g⟩ := x
  have hsub : ∀ y ∈ held.take c ++ held.drop (c + 1), y ∈ held := fun y hy => by
    rcases List.mem_append.1 hy with h | h
    · exact List.mem_of_mem_take h
    · exact List.mem_of_mem_drop h
  have hsp : held = held.take c ++ (z, g) :: held.drop (c + 1) := by
    rw [← hxe, ← List.drop_eq_getElem_cons hc, List.take_append_drop]
  have hnd' := h.hn
  rw [hsp, List.map_append, List.map_cons, List.nodup_append, List.nodup_cons] at hnd'
  obtain ⟨n1, ⟨n2, n3⟩, n4⟩ := hnd'
  have hne : ∀ y ∈ held.take c ++ held.drop (c + 1), y.1 ≠ z := fun y hy => by
    rcases List.mem_append.1 hy with hh | hh
    · exact n4 _ (List.mem_map.2 ⟨y, hh, rfl⟩) _ (by simp)
    · exact fun e => n2 (List.mem_map.2 ⟨y, hh, e⟩)
  have hnd : ((held.take c ++ held.drop (c + 1)).map (·.1)).Nodup := by
    rw [List.map_append, List.nodup_append]
    exact ⟨n1, n3, fun a ha b hb => n4 a ha b (List.mem_cons_of_mem _ hb)⟩
  have hlen : (held.take c ++ held.drop (c + 1)).length ≤ i + 1 := by
    have := h.hk
    simp
    omega
  have fne : ∀ y ∈ fl, y ≠ z := fun y hy e => by
    obtain ⟨_, b, hb, a4⟩ := h.fr y hy
    rw [e] at a4
    have := H.hd
    rw [a4] at this
    exact mkw_ne (s := 0) (t := 1) (by omega) (by omega) (by have := H.hm; omega) (by have := H.hg; have := H.hm; omega) (by omega) this
  have R6o : ∀ b : A3, b ≠ aL z 0 → b ≠ aL z 3 → b ≠ aL z 4 → getW (mR6 M z g).ms b = getW M.ms b := fun b h1 h2 h3 => by rw [gR6 H, if_neg h1, if_neg h3, if_neg h2]
  unfold fM
  by_cases hlt : g < mo
  · rw [if_pos hlt]
    have Y8 : ∀ b : A3, b ≠ aL z 0 → b ≠ aL z 3 → b ≠ aL z 4 → getW (mY8 M z g).ms b = getW M.ms b := fun b h1 h2 h3 => by rw [gY8 H, if_neg h1, R6o b h1 h2 h3]
    have oth : ∀ b : A3, b ≠ aF → b ≠ aL z 2 → b ≠ aL z 0 → b ≠ aL z 3 → b ≠ aL z 4 → getW (mY12 M z g).ms b = getW M.ms b := fun b h0 h1 h2 h3 h4 => by
      rw [gY12 H, if_neg h0, gY11 H, if_neg h1, Y8 b h2 h3 h4]
    have othz : ∀ (y f : Int), y ≠ z → getW (mY12 M z g).ms (aL y f) = getW M.ms (aL y f) := fun y f hy => oth _ (fun e => aFL y f e.symm) (aL_z hy) (aL_z hy) (aL_z hy) (aL_z hy)
    have oS : ∀ b : A3, b.1 ≠ 9 → b ≠ aF → getW (mY12 M z g).ms b = getW M.ms b := fun b h9 hF => oth _ hF (aL_o h9) (aL_o h9) (aL_o h9) (aL_o h9)
    have e0 : getW (mY12 M z g).ms (aL z 0) = mkw 0 (g + 1) := by
      rw [gY12 H, if_neg (fun e => aFL z 0 e.symm), gY11 H, if_neg (aL_f (by omega)), gY8 H, if_pos rfl]
    have e2 : getW (mY12 M z g).ms (aL z 2) = hdN (slI (getW M.ms aF)) 0 := by
      rw [gY12 H, if_neg (fun e => aFL z 2 e.symm), gY11 H, if_pos rfl]
    have eF : getW (mY12 M z g).ms aF = hdN z (tgN (getW M.ms aF) + 1) := by rw [gY12 H, if_pos rfl]
    refine ⟨z :: fl, ly12 H, h.mo4, ?_, ?_, ?_, ?_, ?_, ?_, hnd, hlen⟩
    · rw [oS _ (by decide) (by decide)]; exact h.sg
    · rw [oS _ (by decide) (by decide)]; have := h.pk; omega
    · refine ⟨?_, ?_⟩
      · rw [eF, slI_hdN _ _ (.inr (by have := H.hz; omega))]
      · rw [e2, slI_hdN _ _ (slI_or _)]
        exact Chain.congr (fun y hy => othz y 2 (fne y hy)) h.ch
    · exact List.nodup_cons.2 ⟨fun hm => fne z hm rfl, h.nd⟩
    · intro y hy
      rcases List.mem_cons.1 hy with rfl | hy
      · exact ⟨H.hz, g + 1, by omega, e0⟩
      · obtain ⟨a1, a2, a3, a4⟩ := h.fr y hy
        exact ⟨a1, a2, a3, by rw [othz y 0 (fne y hy)]; exact a4⟩
    · intro y hy
      obtain ⟨a1, a2, a3⟩ := h.hl y (hsub y hy)
      exact ⟨a1, a2, by rw [othz y.1 0 (hne y hy)]; exact a3⟩
  · rw [if_neg hlt]
    have G8 : ∀ b : A3, b ≠ aL z 0 → b ≠ aL z 3 → b ≠ aL z 4 → getW (mG8 M z g).ms b = getW M.ms b := fun b h1 h2 h3 => by rw [gG8 H, if_neg h1, R6o b h1 h2 h3]
    have oth : ∀ b : A3, b ≠ aPk → b ≠ aL z 0 → b ≠ aL z 3 → b ≠ aL z 4 → getW (mG10 M z g).ms b = getW M.ms b := fun b h0 h2 h3 h4 => by
      rw [gG10 H, if_neg h0, G8 b h2 h3 h4]
    have othz : ∀ (y f : Int), y ≠ z → getW (mG10 M z g).ms (aL y f) = getW M.ms (aL y f) := fun y f hy => oth _ (fun e => aPkL y f e.symm) (aL_z hy) (aL_z hy) (aL_z hy)
    have oS : ∀ b : A3, b.1 ≠ 9 → b ≠ aPk → getW (mG10 M z g).ms b = getW M.ms b := fun b h9 hF => oth _ hF (aL_o h9) (aL_o h9) (aL_o h9)
    have ePk : getW (mG10 M z g).ms aPk = getW M.ms aPk + 1 := by rw [gG10 H, if_pos rfl]
    refine ⟨fl, lg10 H, h.mo4, ?_, ?_, ?_, h.nd, ?_, ?_, hnd, hlen⟩
    · rw [oS _ (by decide) (by decide)]; exact h.sg
    · rw [ePk]; have := h.pk; omega
    · rw [oS _ (by decide) (by decide)]
      exact Chain.congr (fun y hy => othz y 2 (fne y hy)) h.ch
    · intro y hy
      obtain ⟨a1, a2, a3, a4⟩ := h.fr y hy
      exact ⟨a1, a2, a3, by rw [othz y 0 (fne y hy)]; exact a4⟩
    · intro y hy
      obtain ⟨a1, a2, a3⟩ := h.hl y (hsub y hy)
      exact ⟨a1, a2, by rw [othz y.1 0 (hne y hy)]; exact a3⟩
end
/-- Behind a freeing its word's state is neither live nor retired. -/
theorem fM_stale {M : PM} {z : Int} {g mo : Nat} (H : FreeIn M z g mo) : Lt (fM M z g mo) ∧ hs (getW (fM M z g mo).ms (aL z 0)) ≠ 1 ∧ hs (getW (fM M z g mo).ms (aL z 0)) ≠ 2 := by
  unfold fM
  by_cases hlt : g < mo
  · rw [if_pos hlt, gY12 H, if_neg (fun e => aFL z 0 e.symm), gY11 H, if_neg (aL_f (by omega)), gY8 H, if_pos rfl, hs_mkw (by omega)]
    exact ⟨ly12 H, by omega, by omega⟩
  · rw [if_neg hlt, gG10 H, if_neg (fun e => aPkL z 0 e.symm), gG8 H, if_pos rfl, hs_mkw (by omega)]
    exact ⟨lg10 H, by omega, by omega⟩
end Go.Proofs.YtimnagafechmbaaGreatDoor.ghostsArena
