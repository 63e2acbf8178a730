/- Steps, as they are handed in: typed reading. -/
import Derived.Test.YtdookobgkcnncaaGi
namespace Go.Proofs.Ytdookobgkcnncaa.E
open Go Go.RowKit
def rStp : Rd Stp := ⟨3, Stp.cells, fun s m => (rSl rByte).ok ⟨s.A, s.c, s.k⟩ m⟩
theorem reads_bytes : Reads Try.prog 32 (rSl rByte) := reads_sl (reads_byte (tb rfl : TabOk Try.prog 5 _) rfl rfl) (tb rfl) rfl rfl
theorem reads_stp : Reads Try.prog 34 rStp :=
  have ht : TabOk Try.prog 34 _ := tb rfl
  ⟨by rw [ht.cellsOf]; rfl, fun _ => rfl, fun s => reads_bytes.up ⟨s.A, s.c, s.k⟩, fun enc w fuel cs x h => by
    obtain ⟨d, h1, _⟩ := read_field ht rfl h (R := rBool) 0 _ rfl (reads_bool (tb rfl : TabOk Try.prog 4 _) rfl rfl)
    obtain ⟨p, h2, _⟩ := read_field ht rfl h (R := rNat .u32 4294967295) 1 _ rfl (reads_nat (tb rfl : TabOk Try.prog 31 _) rfl rfl rfl rfl)
    obtain ⟨s, h3, h4⟩ := read_field ht rfl h (R := rSl rByte) 2 _ rfl reads_bytes
    exact ⟨⟨d, p, s.A, s.c, s.l⟩, cut3 h1 h2 h3 (trod_field ht rfl h).1 rfl, h4⟩⟩
theorem reads_stps : Reads Try.prog 22 (rSl rStp) := reads_sl reads_stp (tb rfl) rfl rfl
theorem stps_exact {s : Sl Stp} {W : World} (h : (rSl rStp).ok s (memOf W)) : stpsOk s.A s.l [exact_ W] :=
  ⟨has_exact h.2.2.1, fun x hx => bytes_src (h.2.2.2 x hx)⟩
end Go.Proofs.Ytdookobgkcnncaa.E
