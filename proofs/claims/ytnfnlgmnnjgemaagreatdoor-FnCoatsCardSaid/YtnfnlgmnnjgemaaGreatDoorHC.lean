/- The texts of numbers, as the program writes them. -/
import Derived.Test.YtnfnlgmnnjgemaaGreatDoorHB
import Derived.Test.YtnfnlgmnnjgemaaGreatDoorShl
namespace Go.Proofs.YtnfnlgmnnjgemaaGreatDoor
open Go.RowKit
set_option maxRecDepth 100000

/-- Copies of the digit 0. -/
theorem repeat0 (p : Nat) (hp : p ≤ 7) (w : World) : Calls Tryz.prog 74 #[.string { data := #[48] }, .int .i64 p] w fun e w' => e = .returned (.string ⟨(Lib.repeatL [48] p).toArray⟩) ∧ Below w.heap.size w w' :=
  Any.strings_Repeat Tryz.lays105 Tryz.Builder_Extra_105 ⟨#[48]⟩ p w (by omega) (by show 1 * p ≤ _; omega)
theorem repeat_size (p : Nat) : (Lib.repeatL [48] p).length = p := by
  induction p with
  | zero => rfl
  | succ n ih => simp_all [Lib.repeatL]
theorem repeat_get (p i : Nat) (h : i < (Lib.repeatL [48] p).length) : (Lib.repeatL [48] p)[i]'h = 48 := by
  have hm : ∀ p, ∀ y ∈ Lib.repeatL [48] p, y = (48 : UInt8) := by
    intro p
    induction p with
    | zero => intro y hy; cases hy
    | succ n ih =>
      intro y hy
      rcases List.mem_append.1 (show y ∈ [48] ++ Lib.repeatL [48] n from hy) with h | h
      · simpa using h
      · exact ih y h
  exact hm p _ (List.getElem_mem h)
theorem nan_text : hexT 2143289344 = ⟨#[55, 102, 99, 48, 48, 48, 48, 48]⟩ := by decide
/-- Zeros ahead of the digits. -/
theorem hex_pad (x p : Nat) (hp : p ≤ 7) (h0 : ∀ j, j < p → hexD x j = 48) : (⟨(Lib.repeatL [48] p).toArray⟩ : ByteArray) ++ (hexT x).extract p 8 = hexT x := by
  apply ByteArray.ext
  apply Array.toList_inj.1
  have hl : (hexT x).data.toList.length = 8 := by simp [hexT]
  have h1 : (hexT x).data.toList.take p = Lib.repeatL [48] p := by
    apply List.ext_getElem
    · rw [List.length_take, hl, repeat_size]; omega
    · intro i h1 h2
      rw [repeat_size] at h2
      rw [List.getElem_take, repeat_get]
      have h3 := hexT_get x i (by rw [hexT_size]; omega)
      rw [h0 i h2] at h3
      have h4 : (hexT x)[i]'(by rw [hexT_size]; omega) = 48 := UInt8.toNat_inj.1 h3
      rw [← h4]
      simp [ByteArray.getElem_eq_getElem_data]
  have h2 : ((hexT x).extract p 8).data.toList = (hexT x).data.toList.drop p := by
    rw [Lib.extract_data]
    exact List.take_of_length_le (by rw [List.length_drop, hl]; exact Nat.le_refl _)
  rw [ByteArray.data_append, Array.toList_append, h2, ← h1]
  exact List.take_append_drop _ _
theorem iNumberText_all (a x : Nat) (w : World) (ht : Tab w) (hb : bitsOf (canon .f32 a) = x) (hx : x < 4294967296) : Calls Tryz.prog 37 #[.float .f32 a] w fun e w' => e = .returned (.string (hexT x)) ∧ Below w.heap.size w w' := by
  have hbits := bits32
  cases ha : canon .f32 a with
  | none =>
    have oa : FloatKind.f32.format.order a a = none := by rw [order_self, ha]; rfl
    rw [ha] at hb
    have e : x = 2143289344 := hb.symm
    subst e
    rw [nan_text]
    clear ha hb
    go_enter Tryz.func37, Tryz.ntmps37
    go_wp2
    go_ret
    exact ⟨rfl, Below.refl _ _⟩
  | some y =>
    have oa : FloatKind.f32.format.order a a = some .eq := by rw [order_self, ha]; rfl
    rw [ha] at hb
    have e : x = y := hb.symm
    subst e
    obtain ⟨rfl, _⟩ := canon_eq_some ha
    clear ha hb
    go_enter Tryz.func37, Tryz.ntmps37
    go_wp2_with fail
    refine (formatUint a hx w ht).mono ?_
    rintro e w1 ⟨⟨p, hp, h0, rfl⟩, hb⟩
    have hsz := hexT_ext_size a p (by omega)
    have hpad := hex_pad a p hp h0
    generalize (hexT a).extract p 8 = s at hsz hpad ⊢
    have hl : (8 : Int) - (s.size : Int) = (p : Int) := by omega
    have Hs := Lib.hid hsz
    have Hp := Lib.hid hpad
    clear hsz hpad h0
    go_wp2_with fail
    refine (repeat0 p hp _).mono ?_
    rintro e w2 ⟨rfl, hb2⟩
    go_wp2
    · exfalso
      have h1 := repeat_size p
      have h2 := Hs.out
      omega
    · go_ret
      exact ⟨congrArg (fun x => Ending.returned (Value.string x)) Hp.out, bCall hb hb2 hb.size⟩
end Go.Proofs.YtnfnlgmnnjgemaaGreatDoor
